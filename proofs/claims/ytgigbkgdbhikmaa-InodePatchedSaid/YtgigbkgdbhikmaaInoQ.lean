/- The laws InodeParts, InodePatched, by reckoning. -/
import Derived.Test.YtgigbkgdbhikmaaInoP
import Derived.Test.YtgigbkgdbhikmaaInoW2
namespace Cw
open Go Vc
open Go.Proofs
set_option maxRecDepth 100000
structure Iw (n : Ino) : Prop where
  k : 0 ≤ n.k ∧ n.k ≤ 255
  l : 0 ≤ n.l ∧ n.l ≤ 255
  z : 0 ≤ n.z ∧ n.z ≤ 65535
  p : 0 ≤ n.p ∧ n.p ≤ 65535
  g : 0 ≤ n.g ∧ n.g ≤ 65535
  d : ∀ i, i < 8 → 0 ≤ n.d i ∧ n.d i ≤ 65535
  m : 0 ≤ n.m ∧ n.m ≤ 65535
theorem Ibd.w {n : Ino} (h : Ibd n) : Iw n := by
  obtain ⟨hk, hl, hz, hp, hg, hd, hm⟩ := h
  exact ⟨by omega, by omega, by omega, by omega, by omega, fun i hi => by have := hd i hi; omega, by omega⟩
theorem dn_wide {n : Ino} (h : Iw n) : dn (S (ibytes n)) = norm n := by
  obtain ⟨hk, hl, hz, hp, hg, hd, hm⟩ := h
  have d0 := hd 0 (by omega)
  have d1 := hd 1 (by omega)
  have d2 := hd 2 (by omega)
  have d3 := hd 3 (by omega)
  have d4 := hd 4 (by omega)
  have d5 := hd 5 (by omega)
  have d6 := hd 6 (by omega)
  have d7 := hd 7 (by omega)
  have g := fun o b hn ho => getn_at (ibytes n) (ibytes_length n) o b hn ho
  have e0 : ((getn (S (ibytes n)) 0 1 : Nat) : Int) = n.k := (congrArg Nat.cast (g 0 1 (by omega) (by omega))).trans (num_one (by omega) (by omega))
  have e1 : ((getn (S (ibytes n)) 1 1 : Nat) : Int) = n.l := (congrArg Nat.cast (g 1 1 (by omega) (by omega))).trans (num_one (by omega) (by omega))
  have e2 : ((getn (S (ibytes n)) 2 2 : Nat) : Int) = n.z := (congrArg Nat.cast (g 2 2 (by omega) (by omega))).trans (num_two (by omega) (by omega))
  have e3 : ((getn (S (ibytes n)) 4 2 : Nat) : Int) = n.p := (congrArg Nat.cast (g 4 2 (by omega) (by omega))).trans (num_two (by omega) (by omega))
  have e4 : ((getn (S (ibytes n)) 6 2 : Nat) : Int) = n.g := (congrArg Nat.cast (g 6 2 (by omega) (by omega))).trans (num_two (by omega) (by omega))
  have e5 : ((getn (S (ibytes n)) 24 2 : Nat) : Int) = n.m := (congrArg Nat.cast (g 24 2 (by omega) (by omega))).trans (num_two (by omega) (by omega))
  have e6 : ((getn (S (ibytes n)) 8 2 : Nat) : Int) = (n.d 0) := (congrArg Nat.cast (g 8 2 (by omega) (by omega))).trans (num_two (by omega) (by omega))
  have e7 : ((getn (S (ibytes n)) 10 2 : Nat) : Int) = (n.d 1) := (congrArg Nat.cast (g 10 2 (by omega) (by omega))).trans (num_two (by omega) (by omega))
  have e8 : ((getn (S (ibytes n)) 12 2 : Nat) : Int) = (n.d 2) := (congrArg Nat.cast (g 12 2 (by omega) (by omega))).trans (num_two (by omega) (by omega))
  have e9 : ((getn (S (ibytes n)) 14 2 : Nat) : Int) = (n.d 3) := (congrArg Nat.cast (g 14 2 (by omega) (by omega))).trans (num_two (by omega) (by omega))
  have e10 : ((getn (S (ibytes n)) 16 2 : Nat) : Int) = (n.d 4) := (congrArg Nat.cast (g 16 2 (by omega) (by omega))).trans (num_two (by omega) (by omega))
  have e11 : ((getn (S (ibytes n)) 18 2 : Nat) : Int) = (n.d 5) := (congrArg Nat.cast (g 18 2 (by omega) (by omega))).trans (num_two (by omega) (by omega))
  have e12 : ((getn (S (ibytes n)) 20 2 : Nat) : Int) = (n.d 6) := (congrArg Nat.cast (g 20 2 (by omega) (by omega))).trans (num_two (by omega) (by omega))
  have e13 : ((getn (S (ibytes n)) 22 2 : Nat) : Int) = (n.d 7) := (congrArg Nat.cast (g 22 2 (by omega) (by omega))).trans (num_two (by omega) (by omega))
  unfold dn norm
  rw [e0, e1, e2, e3, e4, e5, e6, e7, e8, e9, e10, e11, e12, e13]
/-- An inode with one part made anew. -/
def part (n : Ino) (q i : Nat) (x : Int) : Ino := match q with
  | 0 => ⟨n.k, x, n.z, n.p, n.g, n.d, n.m⟩
  | 1 => ⟨n.k, n.l, x, n.p, n.g, n.d, n.m⟩
  | 2 => ⟨n.k, n.l, n.z, x, n.g, n.d, n.m⟩
  | 3 => ⟨n.k, n.l, n.z, n.p, n.g, n.d, x⟩
  | _ => ⟨n.k, n.l, n.z, n.p, n.g, fun j => ([n.d 0, n.d 1, n.d 2, n.d 3, n.d 4, n.d 5, n.d 6, n.d 7].set i x).getD j 0, n.m⟩
def poff (q i : Nat) : Int := match q with
  | 0 => 1
  | 1 => 2
  | 2 => 4
  | 3 => 24
  | _ => 8 + 2 * i
def pby (q : Nat) : Int := match q with
  | 0 => 1
  | _ => 2
theorem links0 (n : Int) : Fn0 Try.prog 63 [.c (iT n)] (.tup [patT (putoff 1 1 n) (putb 1 1 n), .c (iT (pute 1 1 n))]) := ⟨fun w => ilinks_any n w⟩
theorem size0 (n : Int) : Fn0 Try.prog 65 [.c (iT n)] (.tup [patT (putoff 2 2 n) (putb 2 2 n), .c (iT (pute 2 2 n))]) := ⟨fun w => isize_any n w⟩
theorem parent0 (n : Int) : Fn0 Try.prog 66 [.c (iT n)] (.tup [patT (putoff 4 2 n) (putb 4 2 n), .c (iT (pute 4 2 n))]) := ⟨fun w => iparent_any n w⟩
theorem more0 (n : Int) : Fn0 Try.prog 69 [.c (iT n)] (.tup [patT (putoff 24 2 n) (putb 24 2 n), .c (iT (pute 24 2 n))]) := ⟨fun w => imore_any n w⟩
theorem direct0 (i n : Int) : Fn0 Try.prog 67 [.c (iT i), .c (iT n)] (.tup [patT (ato 8 i 8 n) (atb 8 i 8 n), .c (iT (ate 8 i 8 n))]) := ⟨fun w => idirect_any i n w⟩
theorem item0 (i n : Int) : Fn0 Try.prog 70 [.c (iT i), .c (iT n)] (.tup [patT (ato 0 i 32 n) (atb 0 i 32 n), .c (iT (ate 0 i 32 n))]) := ⟨fun w => iitem_any i n w⟩
theorem rpart0 (o b n : Int) : Fn0 Try.prog 64 [.c (iT o), .c (iT b), .c (iT n)] (.tup [patT (putoff o b n) (putb o b n), .c (iT (pute o b n))]) := ⟨fun w => rpart_any o b n w⟩
theorem rdirect0 (i n : Int) : Fn0 Try.prog 68 [.c (iT i), .c (iT n)] (.tup [patT (ato 8 i 8 n) (atb 8 i 8 n), .c (iT (ate 8 i 8 n))]) := ⟨fun w => rdirect_any i n w⟩
theorem ritem0 (i n : Int) : Fn0 Try.prog 71 [.c (iT i), .c (iT n)] (.tup [patT (ato 0 i 32 n) (atb 0 i 32 n), .c (iT (ate 0 i 32 n))]) := ⟨fun w => ritem_any i n w⟩
def pv (o b n : Int) : SV := .tup [patT (putoff o b n) (putb o b n), .c (iT (pute o b n))]
def av (f i m n : Int) : SV := .tup [patT (ato f i m n) (atb f i m n), .c (iT (ate f i m n))]
theorem iparts0 (i n : Int) : Fn0 Try.prog 16 [.c (iT i), .c (iT n)] (.t (.c (.b true))) := by
  refine fn0 (fn := Try.f16) 135 rfl rfl rfl rfl rfl fun w => ?_
  refine rn [(15, .ret (pv 1 1 n)), (20, .ret (pv 1 1 n)), (25, .ret (pv 2 2 n)), (30, .ret (pv 2 2 n)), (52, .ret (.t (.c (.b true)))), (54, .dec false), (57, .ret (pv 4 2 n)), (62, .ret (pv 4 2 n)), (68, .ret (av 8 i 8 n)), (74, .ret (av 8 i 8 n)), (94, .dec false), (97, .ret (pv 24 2 n)), (102, .ret (pv 24 2 n)), (108, .ret (av 0 i 32 n)), (114, .ret (av 0 i 32 n))] rfl ?_ ?_
  · repeat' (first | exact trivial | exact rfl | exact links0 n | exact size0 n | exact parent0 n | exact more0 n | exact direct0 i n | exact item0 i n | exact rpart0 _ _ n | exact rdirect0 i n | exact ritem0 i n | exact fun _ => iworks0 | refine And.intro ?_ ?_)
    all_goals simp [polB, bq]
  · refine ret0 tysOk rfl ⟨?_, trivial⟩ rfl
    simp [polB, bq]
theorem inodeParts_true (i n : Int) (w : World) : Calls Try.prog 16 #[.int .i64 i, .int .i64 n] w fun e w' => e = .returned (.bool true) ∧ RowKit.Below w.heap.size w w' := (iparts0 i n).h w
theorem made0 (n : Ino) (w j x : Int) (hw : w % 5 = 0) : Fn0 Try.prog 76 [inoT n, .agg [iT w, iT j, iT x]] (.tup [inoT (part n 0 0 x), patT (putoff 1 1 x) (putb 1 1 x), .c (iT (pute 1 1 x))]) := by
  refine fn0 (fn := Try.f76) 75 rfl rfl rfl rfl rfl fun _ => ?_
  refine rn [(11, .ret (.t (.c (iT 0)))), (36, .ret (pv 1 1 x)), (28, .dec true)] rfl (by (repeat' (first | exact trivial | exact rfl | exact trivial | exact fun _ => trivial | first | exact links0 x | exact hw ▸ among0 w 5 (by omega) (by omega) | refine And.intro ?_ ?_))) ?_
  exact ret0 tysOk rfl (by repeat' (first | exact trivial | exact rfl | refine And.intro ?_ ?_)) rfl
theorem made1 (n : Ino) (w j x : Int) (hw : w % 5 = 1) : Fn0 Try.prog 76 [inoT n, .agg [iT w, iT j, iT x]] (.tup [inoT (part n 1 0 x), patT (putoff 2 2 x) (putb 2 2 x), .c (iT (pute 2 2 x))]) := by
  refine fn0 (fn := Try.f76) 75 rfl rfl rfl rfl rfl fun _ => ?_
  refine rn [(11, .ret (.t (.c (iT 1)))), (47, .ret (pv 2 2 x)), (28, .dec false), (39, .dec true)] rfl (by (repeat' (first | exact trivial | exact rfl | exact trivial | exact fun _ => trivial | first | exact size0 x | exact hw ▸ among0 w 5 (by omega) (by omega) | refine And.intro ?_ ?_))) ?_
  exact ret0 tysOk rfl (by repeat' (first | exact trivial | exact rfl | refine And.intro ?_ ?_)) rfl
theorem made2 (n : Ino) (w j x : Int) (hw : w % 5 = 2) : Fn0 Try.prog 76 [inoT n, .agg [iT w, iT j, iT x]] (.tup [inoT (part n 2 0 x), patT (putoff 4 2 x) (putb 4 2 x), .c (iT (pute 4 2 x))]) := by
  refine fn0 (fn := Try.f76) 75 rfl rfl rfl rfl rfl fun _ => ?_
  refine rn [(11, .ret (.t (.c (iT 2)))), (58, .ret (pv 4 2 x)), (28, .dec false), (39, .dec false), (50, .dec true)] rfl (by (repeat' (first | exact trivial | exact rfl | exact trivial | exact fun _ => trivial | first | exact parent0 x | exact hw ▸ among0 w 5 (by omega) (by omega) | refine And.intro ?_ ?_))) ?_
  exact ret0 tysOk rfl (by repeat' (first | exact trivial | exact rfl | refine And.intro ?_ ?_)) rfl
theorem made3 (n : Ino) (w j x : Int) (hw : w % 5 = 3) : Fn0 Try.prog 76 [inoT n, .agg [iT w, iT j, iT x]] (.tup [inoT (part n 3 0 x), patT (putoff 24 2 x) (putb 24 2 x), .c (iT (pute 24 2 x))]) := by
  refine fn0 (fn := Try.f76) 75 rfl rfl rfl rfl rfl fun _ => ?_
  refine rn [(11, .ret (.t (.c (iT 3)))), (69, .ret (pv 24 2 x)), (28, .dec false), (39, .dec false), (50, .dec false), (61, .dec true)] rfl (by (repeat' (first | exact trivial | exact rfl | exact trivial | exact fun _ => trivial | first | exact more0 x | exact hw ▸ among0 w 5 (by omega) (by omega) | refine And.intro ?_ ?_))) ?_
  exact ret0 tysOk rfl (by repeat' (first | exact trivial | exact rfl | refine And.intro ?_ ?_)) rfl
theorem made40 (n : Ino) (w j x : Int) (hw : w % 5 = 4) (hj : j % 8 = 0) : Fn0 Try.prog 76 [inoT n, .agg [iT w, iT j, iT x]] (.tup [inoT (part n 4 0 x), patT (putoff 8 2 x) (putb 8 2 x), .c (iT (pute 8 2 x))]) := by
  refine fn0 (fn := Try.f76) 75 rfl rfl rfl rfl rfl fun _ => ?_
  refine rn [(11, .ret (.t (.c (iT 4)))), (14, .ret (.t (.c (iT 0)))), (22, .ret (.t (.c (iT 0)))), (25, .ret (av 8 0 8 x)), (28, .dec false), (39, .dec false), (50, .dec false), (61, .dec false)] rfl (by (repeat' (first | exact trivial | exact rfl | exact trivial | exact fun _ => trivial | first | decide | exact direct0 0 x | exact hw ▸ among0 w 5 (by omega) (by omega) | exact hj ▸ among0 j 8 (by omega) (by omega) | refine And.intro ?_ ?_))) ?_
  exact ret0 tysOk rfl (by repeat' (first | exact trivial | exact rfl | refine And.intro ?_ ?_)) rfl
theorem made41 (n : Ino) (w j x : Int) (hw : w % 5 = 4) (hj : j % 8 = 1) : Fn0 Try.prog 76 [inoT n, .agg [iT w, iT j, iT x]] (.tup [inoT (part n 4 1 x), patT (putoff 10 2 x) (putb 10 2 x), .c (iT (pute 10 2 x))]) := by
  refine fn0 (fn := Try.f76) 75 rfl rfl rfl rfl rfl fun _ => ?_
  refine rn [(11, .ret (.t (.c (iT 4)))), (14, .ret (.t (.c (iT 1)))), (22, .ret (.t (.c (iT 1)))), (25, .ret (av 8 1 8 x)), (28, .dec false), (39, .dec false), (50, .dec false), (61, .dec false)] rfl (by (repeat' (first | exact trivial | exact rfl | exact trivial | exact fun _ => trivial | first | decide | exact direct0 1 x | exact hw ▸ among0 w 5 (by omega) (by omega) | exact hj ▸ among0 j 8 (by omega) (by omega) | refine And.intro ?_ ?_))) ?_
  exact ret0 tysOk rfl (by repeat' (first | exact trivial | exact rfl | refine And.intro ?_ ?_)) rfl
theorem made42 (n : Ino) (w j x : Int) (hw : w % 5 = 4) (hj : j % 8 = 2) : Fn0 Try.prog 76 [inoT n, .agg [iT w, iT j, iT x]] (.tup [inoT (part n 4 2 x), patT (putoff 12 2 x) (putb 12 2 x), .c (iT (pute 12 2 x))]) := by
  refine fn0 (fn := Try.f76) 75 rfl rfl rfl rfl rfl fun _ => ?_
  refine rn [(11, .ret (.t (.c (iT 4)))), (14, .ret (.t (.c (iT 2)))), (22, .ret (.t (.c (iT 2)))), (25, .ret (av 8 2 8 x)), (28, .dec false), (39, .dec false), (50, .dec false), (61, .dec false)] rfl (by (repeat' (first | exact trivial | exact rfl | exact trivial | exact fun _ => trivial | first | decide | exact direct0 2 x | exact hw ▸ among0 w 5 (by omega) (by omega) | exact hj ▸ among0 j 8 (by omega) (by omega) | refine And.intro ?_ ?_))) ?_
  exact ret0 tysOk rfl (by repeat' (first | exact trivial | exact rfl | refine And.intro ?_ ?_)) rfl
theorem made43 (n : Ino) (w j x : Int) (hw : w % 5 = 4) (hj : j % 8 = 3) : Fn0 Try.prog 76 [inoT n, .agg [iT w, iT j, iT x]] (.tup [inoT (part n 4 3 x), patT (putoff 14 2 x) (putb 14 2 x), .c (iT (pute 14 2 x))]) := by
  refine fn0 (fn := Try.f76) 75 rfl rfl rfl rfl rfl fun _ => ?_
  refine rn [(11, .ret (.t (.c (iT 4)))), (14, .ret (.t (.c (iT 3)))), (22, .ret (.t (.c (iT 3)))), (25, .ret (av 8 3 8 x)), (28, .dec false), (39, .dec false), (50, .dec false), (61, .dec false)] rfl (by (repeat' (first | exact trivial | exact rfl | exact trivial | exact fun _ => trivial | first | decide | exact direct0 3 x | exact hw ▸ among0 w 5 (by omega) (by omega) | exact hj ▸ among0 j 8 (by omega) (by omega) | refine And.intro ?_ ?_))) ?_
  exact ret0 tysOk rfl (by repeat' (first | exact trivial | exact rfl | refine And.intro ?_ ?_)) rfl
theorem made44 (n : Ino) (w j x : Int) (hw : w % 5 = 4) (hj : j % 8 = 4) : Fn0 Try.prog 76 [inoT n, .agg [iT w, iT j, iT x]] (.tup [inoT (part n 4 4 x), patT (putoff 16 2 x) (putb 16 2 x), .c (iT (pute 16 2 x))]) := by
  refine fn0 (fn := Try.f76) 75 rfl rfl rfl rfl rfl fun _ => ?_
  refine rn [(11, .ret (.t (.c (iT 4)))), (14, .ret (.t (.c (iT 4)))), (22, .ret (.t (.c (iT 4)))), (25, .ret (av 8 4 8 x)), (28, .dec false), (39, .dec false), (50, .dec false), (61, .dec false)] rfl (by (repeat' (first | exact trivial | exact rfl | exact trivial | exact fun _ => trivial | first | decide | exact direct0 4 x | exact hw ▸ among0 w 5 (by omega) (by omega) | exact hj ▸ among0 j 8 (by omega) (by omega) | refine And.intro ?_ ?_))) ?_
  exact ret0 tysOk rfl (by repeat' (first | exact trivial | exact rfl | refine And.intro ?_ ?_)) rfl
theorem made45 (n : Ino) (w j x : Int) (hw : w % 5 = 4) (hj : j % 8 = 5) : Fn0 Try.prog 76 [inoT n, .agg [iT w, iT j, iT x]] (.tup [inoT (part n 4 5 x), patT (putoff 18 2 x) (putb 18 2 x), .c (iT (pute 18 2 x))]) := by
  refine fn0 (fn := Try.f76) 75 rfl rfl rfl rfl rfl fun _ => ?_
  refine rn [(11, .ret (.t (.c (iT 4)))), (14, .ret (.t (.c (iT 5)))), (22, .ret (.t (.c (iT 5)))), (25, .ret (av 8 5 8 x)), (28, .dec false), (39, .dec false), (50, .dec false), (61, .dec false)] rfl (by (repeat' (first | exact trivial | exact rfl | exact trivial | exact fun _ => trivial | first | decide | exact direct0 5 x | exact hw ▸ among0 w 5 (by omega) (by omega) | exact hj ▸ among0 j 8 (by omega) (by omega) | refine And.intro ?_ ?_))) ?_
  exact ret0 tysOk rfl (by repeat' (first | exact trivial | exact rfl | refine And.intro ?_ ?_)) rfl
theorem made46 (n : Ino) (w j x : Int) (hw : w % 5 = 4) (hj : j % 8 = 6) : Fn0 Try.prog 76 [inoT n, .agg [iT w, iT j, iT x]] (.tup [inoT (part n 4 6 x), patT (putoff 20 2 x) (putb 20 2 x), .c (iT (pute 20 2 x))]) := by
  refine fn0 (fn := Try.f76) 75 rfl rfl rfl rfl rfl fun _ => ?_
  refine rn [(11, .ret (.t (.c (iT 4)))), (14, .ret (.t (.c (iT 6)))), (22, .ret (.t (.c (iT 6)))), (25, .ret (av 8 6 8 x)), (28, .dec false), (39, .dec false), (50, .dec false), (61, .dec false)] rfl (by (repeat' (first | exact trivial | exact rfl | exact trivial | exact fun _ => trivial | first | decide | exact direct0 6 x | exact hw ▸ among0 w 5 (by omega) (by omega) | exact hj ▸ among0 j 8 (by omega) (by omega) | refine And.intro ?_ ?_))) ?_
  exact ret0 tysOk rfl (by repeat' (first | exact trivial | exact rfl | refine And.intro ?_ ?_)) rfl
theorem made47 (n : Ino) (w j x : Int) (hw : w % 5 = 4) (hj : j % 8 = 7) : Fn0 Try.prog 76 [inoT n, .agg [iT w, iT j, iT x]] (.tup [inoT (part n 4 7 x), patT (putoff 22 2 x) (putb 22 2 x), .c (iT (pute 22 2 x))]) := by
  refine fn0 (fn := Try.f76) 75 rfl rfl rfl rfl rfl fun _ => ?_
  refine rn [(11, .ret (.t (.c (iT 4)))), (14, .ret (.t (.c (iT 7)))), (22, .ret (.t (.c (iT 7)))), (25, .ret (av 8 7 8 x)), (28, .dec false), (39, .dec false), (50, .dec false), (61, .dec false)] rfl (by (repeat' (first | exact trivial | exact rfl | exact trivial | exact fun _ => trivial | first | decide | exact direct0 7 x | exact hw ▸ among0 w 5 (by omega) (by omega) | exact hj ▸ among0 j 8 (by omega) (by omega) | refine And.intro ?_ ?_))) ?_
  exact ret0 tysOk rfl (by repeat' (first | exact trivial | exact rfl | refine And.intro ?_ ?_)) rfl
theorem dec_bad {a b c : Int} {m : Ino} (hg : Gok a b c) (hw : Iw m) (hm : ichk a b c m ≠ 0) : idece a b c (S (ibytes m)) = 60 := by
  rw [idece, if_pos hg, if_neg]
  rintro ⟨_, h, _⟩
  rw [dn_wide hw] at h
  have : ience a b c (norm m) = ichk a b c m := (enc_no (n := norm m) hm).2
  exact hm (this.symm.trans h)
theorem patched_law (a b c : Int) (n m : Ino) (w j x o k : Int) (hmade : Fn0 Try.prog 76 [inoT n, .agg [iT w, iT j, iT x]] (.tup [inoT m, patT (putoff o k x) (putb o k x), .c (iT (pute o k x))]))
    (h1 : ichk a b c m = 0 → pute o k x = 0) (h2 : ichk a b c n = 0 → pute o k x = 0 → pt (S (ibytes n)) [pat o k x] = S (ibytes m) ∧ pte (S (ibytes n)) [pat o k x] = 0 ∧ Iw m) : Fn0 Try.prog 21 [geoT a b c, inoT n, .agg [iT w, iT j, iT x]] (.t (.c (.b true))) := by
  refine fn0 (fn := Try.f21) 66 rfl rfl rfl rfl rfl fun _ => ?_
  by_cases h : ichk a b c n = 0
  · by_cases he : pute o k x = 0
    · obtain ⟨p1, p2, p3⟩ := h2 h he
      have hp := fun {H : HL} {nx kk : Nat} {bb : Bool} {T : TypeId} {cs : List CV} (hk : lookH H kk = some (bb, .cells cs T)) (hx : ∀ e, cs.map (CV.den e) = pcells [pat o k x]) => patched_lit (S (ibytes n)) [pat o k x] (by intro q hq; rw [List.mem_singleton.1 hq]; exact pat_size _ _ _) (by rw [S_size, ibytes_length]; decide) (by simp [maxLen]) (nx := nx) (m := 1) hk rfl hx
      rw [p1, p2] at hp
      by_cases hm : ichk a b c m = 0
      · refine rn [(15, .ret (.t (.c (.b true)))), (16, .dec false), (20, .ret (.tup [.c (.s (S (ibytes n))), .c (iT 0)])), (24, .dec false), (28, .ret (.tup [inoT m, patT (putoff o k x) (putb o k x), .c (iT (pute o k x))])), (33, .dec false), (42, .spec ⟨.tup [.c (.s (S (ibytes m))), .c (iT 0)], [], [], []⟩), (48, .ret (.tup [inoT m, .c (iT 0)])), (52, .dec false), (55, .ret (.t (.c (iT (ichk a b c m))))), (56, .dec false)] rfl (by (repeat' (first | exact trivial | exact rfl | exact iworks0 | exact fun _ => iworks0 | first | exact encOk0 h | exact hmade | exact hp rfl (fun _ => rfl) | exact decBack0 hm | exact icheck0 a b c m | simpa using he | simpa using hm | decide | refine And.intro ?_ ?_))) ?_
        refine ret0 tysOk rfl ⟨?_, trivial⟩ rfl
        simp [polB]
      · have hd := dec_bad (ichk_ok h).1 p3 hm
        refine rn [(15, .ret (.t (.c (.b true)))), (16, .dec false), (20, .ret (.tup [.c (.s (S (ibytes n))), .c (iT 0)])), (24, .dec false), (28, .ret (.tup [inoT m, patT (putoff o k x) (putb o k x), .c (iT (pute o k x))])), (33, .dec false), (42, .spec ⟨.tup [.c (.s (S (ibytes m))), .c (iT 0)], [], [], []⟩), (48, .ret (.tup [inoT (idec a b c (S (ibytes m))), .c (iT (idece a b c (S (ibytes m))))])), (52, .dec false), (55, .ret (.t (.c (iT (ichk a b c m))))), (56, .dec true)] rfl (by (repeat' (first | exact trivial | exact rfl | exact iworks0 | exact fun _ => iworks0 | first | exact encOk0 h | exact hmade | exact hp rfl (fun _ => rfl) | exact idec0 a b c (S (ibytes m)) (by rw [S_size, ibytes_length]; decide) | exact icheck0 a b c m | simpa using he | simpa using hm | decide | refine And.intro ?_ ?_))) ?_
        refine ret0 tysOk rfl ⟨?_, trivial⟩ rfl
        rw [hd]; rfl
    · have hm : ichk a b c m ≠ 0 := fun hm => he (h1 hm)
      refine rn [(15, .ret (.t (.c (.b true)))), (16, .dec false), (20, .ret (.tup [.c (.s (S (ibytes n))), .c (iT 0)])), (24, .dec false), (28, .ret (.tup [inoT m, patT (putoff o k x) (putb o k x), .c (iT (pute o k x))])), (33, .dec true), (36, .ret (.t (.c (iT (ichk a b c m)))))] rfl (by (repeat' (first | exact trivial | exact rfl | exact iworks0 | exact fun _ => iworks0 | first | exact encOk0 h | exact hmade | exact icheck0 a b c m | simpa using he | decide | refine And.intro ?_ ?_))) ?_
      refine ret0 tysOk rfl ⟨?_, trivial⟩ rfl
      simpa using hm
  · refine rn [(15, .ret (.t (.c (.b true)))), (16, .dec false), (20, .ret (.tup [.c (.s ⟨#[]⟩), .c (iT (ichk a b c n))])), (24, .dec true)] rfl (by (repeat' (first | exact trivial | exact rfl | exact iworks0 | exact fun _ => iworks0 | first | exact encNo0 h | simpa using h | refine And.intro ?_ ?_))) ?_
    exact ret0 tysOk rfl ⟨rfl, trivial⟩ rfl
theorem pute_ok {o b x : Int} (hb : b = 1 ∨ b = 2 ∨ b = 4) (h0 : 0 ≤ o) (h1 : o ≤ 64 - b) (x0 : 0 ≤ x) (x1 : x < 256 ^ b.toNat) : pute o b x = 0 := by
  rw [pute, if_pos ⟨hb, h0, h1, x0, x1⟩]
theorem pute_bd {o b x : Int} (h : pute o b x = 0) : 0 ≤ x ∧ x < 256 ^ b.toNat := by
  unfold pute at h
  split at h
  · rename_i hp; exact hp.2.2.2
  · cases h
theorem pt_one (l : List UInt8) (hl : l.length = 64) {o b x : Int} (h : pute o b x = 0) (hb : b = 1 ∨ b = 2 ∨ b = 4) (h0 : 0 ≤ o) (h1 : o ≤ 64 - b) : pte (S l) [pat o b x] = 0 ∧ pt (S l) [pat o b x] = S (one l (o, S (le b.toNat x.toNat))) := by
  obtain ⟨x0, x1⟩ := pute_bd h
  rw [pat_ok hb h0 h1 x0 x1]
  obtain ⟨e1, e2⟩ := pt_ok (S l) [(o, S (le b.toNat x.toNat))] (by rw [S_size, hl]) (by simp) (by
    simp [okp, finside, S_size, le_length]
    omega)
  exact ⟨e1, by rw [e2, S_data]; rfl⟩
theorem patched0 (a b c : Int) (n : Ino) (w j x : Int) (hw : w % 5 = 0) : Fn0 Try.prog 21 [geoT a b c, inoT n, .agg [iT w, iT j, iT x]] (.t (.c (.b true))) := by
  refine patched_law a b c n (part n 0 0 x) w j x 1 1 (made0 n w j x hw) (fun h => ?_) (fun h he => ?_)
  · have hb := iok_bd (ichk_ok h).2
    have := hb.l
    have h3 : 0 ≤ x ∧ x ≤ 65535 := by
      have : 0 ≤ x ∧ x ≤ 2560 := ⟨this.1, Int.le_trans this.2 (by decide)⟩
      omega
    exact pute_ok (by omega) (by omega) (by omega) h3.1 (Int.lt_of_le_of_lt (show x ≤ 255 from this.2) (by decide))
  · have hn := (iok_bd (ichk_ok h).2).w
    obtain ⟨x0, x1⟩ := pute_bd he
    obtain ⟨p1, p2⟩ := pt_one (ibytes n) (ibytes_length n) he (by omega) (by omega) (by omega)
    have iw : Iw (part n 0 0 x) := by
        have xb : 0 ≤ x ∧ x ≤ 255 := by simp at x1; omega
        exact ⟨hn.k, xb, hn.z, hn.p, hn.g, hn.d, hn.m⟩
    refine ⟨p2.trans ?_, p1, iw⟩
    show S (one (ibytes n) (1, S (le 1 x.toNat))) = _
    rw [le_one]
    rfl
theorem patched1 (a b c : Int) (n : Ino) (w j x : Int) (hw : w % 5 = 1) : Fn0 Try.prog 21 [geoT a b c, inoT n, .agg [iT w, iT j, iT x]] (.t (.c (.b true))) := by
  refine patched_law a b c n (part n 1 0 x) w j x 2 2 (made1 n w j x hw) (fun h => ?_) (fun h he => ?_)
  · have hb := iok_bd (ichk_ok h).2
    have := hb.z
    have h3 : 0 ≤ x ∧ x ≤ 65535 := by
      have : 0 ≤ x ∧ x ≤ 2560 := ⟨this.1, Int.le_trans this.2 (by decide)⟩
      omega
    exact pute_ok (by omega) (by omega) (by omega) h3.1 (by simp; omega)
  · have hn := (iok_bd (ichk_ok h).2).w
    obtain ⟨x0, x1⟩ := pute_bd he
    obtain ⟨p1, p2⟩ := pt_one (ibytes n) (ibytes_length n) he (by omega) (by omega) (by omega)
    have iw : Iw (part n 1 0 x) := by
        have xb : 0 ≤ x ∧ x ≤ 65535 := by simp at x1; omega
        exact ⟨hn.k, hn.l, xb, hn.p, hn.g, hn.d, hn.m⟩
    refine ⟨p2.trans ?_, p1, iw⟩
    show S (one (ibytes n) (2, S (le 2 x.toNat))) = _
    rw [le_two]
    rfl
theorem patched2 (a b c : Int) (n : Ino) (w j x : Int) (hw : w % 5 = 2) : Fn0 Try.prog 21 [geoT a b c, inoT n, .agg [iT w, iT j, iT x]] (.t (.c (.b true))) := by
  refine patched_law a b c n (part n 2 0 x) w j x 4 2 (made2 n w j x hw) (fun h => ?_) (fun h he => ?_)
  · have hb := iok_bd (ichk_ok h).2
    have := hb.p
    have h3 : 0 ≤ x ∧ x ≤ 65535 := by
      have : 0 ≤ x ∧ x ≤ 2560 := ⟨this.1, Int.le_trans this.2 (by decide)⟩
      omega
    exact pute_ok (by omega) (by omega) (by omega) h3.1 (by simp; omega)
  · have hn := (iok_bd (ichk_ok h).2).w
    obtain ⟨x0, x1⟩ := pute_bd he
    obtain ⟨p1, p2⟩ := pt_one (ibytes n) (ibytes_length n) he (by omega) (by omega) (by omega)
    have iw : Iw (part n 2 0 x) := by
        have xb : 0 ≤ x ∧ x ≤ 65535 := by simp at x1; omega
        exact ⟨hn.k, hn.l, hn.z, xb, hn.g, hn.d, hn.m⟩
    refine ⟨p2.trans ?_, p1, iw⟩
    show S (one (ibytes n) (4, S (le 2 x.toNat))) = _
    rw [le_two]
    rfl
theorem patched3 (a b c : Int) (n : Ino) (w j x : Int) (hw : w % 5 = 3) : Fn0 Try.prog 21 [geoT a b c, inoT n, .agg [iT w, iT j, iT x]] (.t (.c (.b true))) := by
  refine patched_law a b c n (part n 3 0 x) w j x 24 2 (made3 n w j x hw) (fun h => ?_) (fun h he => ?_)
  · have hb := iok_bd (ichk_ok h).2
    have := hb.m
    have h3 : 0 ≤ x ∧ x ≤ 65535 := by
      have : 0 ≤ x ∧ x ≤ 2560 := ⟨this.1, Int.le_trans this.2 (by decide)⟩
      omega
    exact pute_ok (by omega) (by omega) (by omega) h3.1 (by simp; omega)
  · have hn := (iok_bd (ichk_ok h).2).w
    obtain ⟨x0, x1⟩ := pute_bd he
    obtain ⟨p1, p2⟩ := pt_one (ibytes n) (ibytes_length n) he (by omega) (by omega) (by omega)
    have iw : Iw (part n 3 0 x) := by
        have xb : 0 ≤ x ∧ x ≤ 65535 := by simp at x1; omega
        exact ⟨hn.k, hn.l, hn.z, hn.p, hn.g, hn.d, xb⟩
    refine ⟨p2.trans ?_, p1, iw⟩
    show S (one (ibytes n) (24, S (le 2 x.toNat))) = _
    rw [le_two]
    rfl
theorem patched40 (a b c : Int) (n : Ino) (w j x : Int) (hw : w % 5 = 4) (hj : j % 8 = 0) : Fn0 Try.prog 21 [geoT a b c, inoT n, .agg [iT w, iT j, iT x]] (.t (.c (.b true))) := by
  refine patched_law a b c n (part n 4 0 x) w j x 8 2 (made40 n w j x hw hj) (fun h => ?_) (fun h he => ?_)
  · have hb := iok_bd (ichk_ok h).2
    have := hb.d 0 (by omega)
    have h3 : 0 ≤ x ∧ x ≤ 65535 := by
      have : 0 ≤ x ∧ x ≤ 2560 := ⟨this.1, Int.le_trans this.2 (by decide)⟩
      omega
    exact pute_ok (by omega) (by omega) (by omega) h3.1 (by simp; omega)
  · have hn := (iok_bd (ichk_ok h).2).w
    obtain ⟨x0, x1⟩ := pute_bd he
    obtain ⟨p1, p2⟩ := pt_one (ibytes n) (ibytes_length n) he (by omega) (by omega) (by omega)
    have iw : Iw (part n 4 0 x) := by
        have xb : 0 ≤ x ∧ x ≤ 65535 := by simp at x1; omega
        refine ⟨hn.k, hn.l, hn.z, hn.p, hn.g, fun t ht => ?_, hn.m⟩
        match t, ht with
        | 0, _ => exact xb
        | 1, _ => exact hn.d 1 (by omega)
        | 2, _ => exact hn.d 2 (by omega)
        | 3, _ => exact hn.d 3 (by omega)
        | 4, _ => exact hn.d 4 (by omega)
        | 5, _ => exact hn.d 5 (by omega)
        | 6, _ => exact hn.d 6 (by omega)
        | 7, _ => exact hn.d 7 (by omega)
    refine ⟨p2.trans ?_, p1, iw⟩
    show S (one (ibytes n) (8, S (le 2 x.toNat))) = _
    rw [le_two]
    rfl
theorem patched41 (a b c : Int) (n : Ino) (w j x : Int) (hw : w % 5 = 4) (hj : j % 8 = 1) : Fn0 Try.prog 21 [geoT a b c, inoT n, .agg [iT w, iT j, iT x]] (.t (.c (.b true))) := by
  refine patched_law a b c n (part n 4 1 x) w j x 10 2 (made41 n w j x hw hj) (fun h => ?_) (fun h he => ?_)
  · have hb := iok_bd (ichk_ok h).2
    have := hb.d 1 (by omega)
    have h3 : 0 ≤ x ∧ x ≤ 65535 := by
      have : 0 ≤ x ∧ x ≤ 2560 := ⟨this.1, Int.le_trans this.2 (by decide)⟩
      omega
    exact pute_ok (by omega) (by omega) (by omega) h3.1 (by simp; omega)
  · have hn := (iok_bd (ichk_ok h).2).w
    obtain ⟨x0, x1⟩ := pute_bd he
    obtain ⟨p1, p2⟩ := pt_one (ibytes n) (ibytes_length n) he (by omega) (by omega) (by omega)
    have iw : Iw (part n 4 1 x) := by
        have xb : 0 ≤ x ∧ x ≤ 65535 := by simp at x1; omega
        refine ⟨hn.k, hn.l, hn.z, hn.p, hn.g, fun t ht => ?_, hn.m⟩
        match t, ht with
        | 0, _ => exact hn.d 0 (by omega)
        | 1, _ => exact xb
        | 2, _ => exact hn.d 2 (by omega)
        | 3, _ => exact hn.d 3 (by omega)
        | 4, _ => exact hn.d 4 (by omega)
        | 5, _ => exact hn.d 5 (by omega)
        | 6, _ => exact hn.d 6 (by omega)
        | 7, _ => exact hn.d 7 (by omega)
    refine ⟨p2.trans ?_, p1, iw⟩
    show S (one (ibytes n) (10, S (le 2 x.toNat))) = _
    rw [le_two]
    rfl
theorem patched42 (a b c : Int) (n : Ino) (w j x : Int) (hw : w % 5 = 4) (hj : j % 8 = 2) : Fn0 Try.prog 21 [geoT a b c, inoT n, .agg [iT w, iT j, iT x]] (.t (.c (.b true))) := by
  refine patched_law a b c n (part n 4 2 x) w j x 12 2 (made42 n w j x hw hj) (fun h => ?_) (fun h he => ?_)
  · have hb := iok_bd (ichk_ok h).2
    have := hb.d 2 (by omega)
    have h3 : 0 ≤ x ∧ x ≤ 65535 := by
      have : 0 ≤ x ∧ x ≤ 2560 := ⟨this.1, Int.le_trans this.2 (by decide)⟩
      omega
    exact pute_ok (by omega) (by omega) (by omega) h3.1 (by simp; omega)
  · have hn := (iok_bd (ichk_ok h).2).w
    obtain ⟨x0, x1⟩ := pute_bd he
    obtain ⟨p1, p2⟩ := pt_one (ibytes n) (ibytes_length n) he (by omega) (by omega) (by omega)
    have iw : Iw (part n 4 2 x) := by
        have xb : 0 ≤ x ∧ x ≤ 65535 := by simp at x1; omega
        refine ⟨hn.k, hn.l, hn.z, hn.p, hn.g, fun t ht => ?_, hn.m⟩
        match t, ht with
        | 0, _ => exact hn.d 0 (by omega)
        | 1, _ => exact hn.d 1 (by omega)
        | 2, _ => exact xb
        | 3, _ => exact hn.d 3 (by omega)
        | 4, _ => exact hn.d 4 (by omega)
        | 5, _ => exact hn.d 5 (by omega)
        | 6, _ => exact hn.d 6 (by omega)
        | 7, _ => exact hn.d 7 (by omega)
    refine ⟨p2.trans ?_, p1, iw⟩
    show S (one (ibytes n) (12, S (le 2 x.toNat))) = _
    rw [le_two]
    rfl
theorem patched43 (a b c : Int) (n : Ino) (w j x : Int) (hw : w % 5 = 4) (hj : j % 8 = 3) : Fn0 Try.prog 21 [geoT a b c, inoT n, .agg [iT w, iT j, iT x]] (.t (.c (.b true))) := by
  refine patched_law a b c n (part n 4 3 x) w j x 14 2 (made43 n w j x hw hj) (fun h => ?_) (fun h he => ?_)
  · have hb := iok_bd (ichk_ok h).2
    have := hb.d 3 (by omega)
    have h3 : 0 ≤ x ∧ x ≤ 65535 := by
      have : 0 ≤ x ∧ x ≤ 2560 := ⟨this.1, Int.le_trans this.2 (by decide)⟩
      omega
    exact pute_ok (by omega) (by omega) (by omega) h3.1 (by simp; omega)
  · have hn := (iok_bd (ichk_ok h).2).w
    obtain ⟨x0, x1⟩ := pute_bd he
    obtain ⟨p1, p2⟩ := pt_one (ibytes n) (ibytes_length n) he (by omega) (by omega) (by omega)
    have iw : Iw (part n 4 3 x) := by
        have xb : 0 ≤ x ∧ x ≤ 65535 := by simp at x1; omega
        refine ⟨hn.k, hn.l, hn.z, hn.p, hn.g, fun t ht => ?_, hn.m⟩
        match t, ht with
        | 0, _ => exact hn.d 0 (by omega)
        | 1, _ => exact hn.d 1 (by omega)
        | 2, _ => exact hn.d 2 (by omega)
        | 3, _ => exact xb
        | 4, _ => exact hn.d 4 (by omega)
        | 5, _ => exact hn.d 5 (by omega)
        | 6, _ => exact hn.d 6 (by omega)
        | 7, _ => exact hn.d 7 (by omega)
    refine ⟨p2.trans ?_, p1, iw⟩
    show S (one (ibytes n) (14, S (le 2 x.toNat))) = _
    rw [le_two]
    rfl
theorem patched44 (a b c : Int) (n : Ino) (w j x : Int) (hw : w % 5 = 4) (hj : j % 8 = 4) : Fn0 Try.prog 21 [geoT a b c, inoT n, .agg [iT w, iT j, iT x]] (.t (.c (.b true))) := by
  refine patched_law a b c n (part n 4 4 x) w j x 16 2 (made44 n w j x hw hj) (fun h => ?_) (fun h he => ?_)
  · have hb := iok_bd (ichk_ok h).2
    have := hb.d 4 (by omega)
    have h3 : 0 ≤ x ∧ x ≤ 65535 := by
      have : 0 ≤ x ∧ x ≤ 2560 := ⟨this.1, Int.le_trans this.2 (by decide)⟩
      omega
    exact pute_ok (by omega) (by omega) (by omega) h3.1 (by simp; omega)
  · have hn := (iok_bd (ichk_ok h).2).w
    obtain ⟨x0, x1⟩ := pute_bd he
    obtain ⟨p1, p2⟩ := pt_one (ibytes n) (ibytes_length n) he (by omega) (by omega) (by omega)
    have iw : Iw (part n 4 4 x) := by
        have xb : 0 ≤ x ∧ x ≤ 65535 := by simp at x1; omega
        refine ⟨hn.k, hn.l, hn.z, hn.p, hn.g, fun t ht => ?_, hn.m⟩
        match t, ht with
        | 0, _ => exact hn.d 0 (by omega)
        | 1, _ => exact hn.d 1 (by omega)
        | 2, _ => exact hn.d 2 (by omega)
        | 3, _ => exact hn.d 3 (by omega)
        | 4, _ => exact xb
        | 5, _ => exact hn.d 5 (by omega)
        | 6, _ => exact hn.d 6 (by omega)
        | 7, _ => exact hn.d 7 (by omega)
    refine ⟨p2.trans ?_, p1, iw⟩
    show S (one (ibytes n) (16, S (le 2 x.toNat))) = _
    rw [le_two]
    rfl
theorem patched45 (a b c : Int) (n : Ino) (w j x : Int) (hw : w % 5 = 4) (hj : j % 8 = 5) : Fn0 Try.prog 21 [geoT a b c, inoT n, .agg [iT w, iT j, iT x]] (.t (.c (.b true))) := by
  refine patched_law a b c n (part n 4 5 x) w j x 18 2 (made45 n w j x hw hj) (fun h => ?_) (fun h he => ?_)
  · have hb := iok_bd (ichk_ok h).2
    have := hb.d 5 (by omega)
    have h3 : 0 ≤ x ∧ x ≤ 65535 := by
      have : 0 ≤ x ∧ x ≤ 2560 := ⟨this.1, Int.le_trans this.2 (by decide)⟩
      omega
    exact pute_ok (by omega) (by omega) (by omega) h3.1 (by simp; omega)
  · have hn := (iok_bd (ichk_ok h).2).w
    obtain ⟨x0, x1⟩ := pute_bd he
    obtain ⟨p1, p2⟩ := pt_one (ibytes n) (ibytes_length n) he (by omega) (by omega) (by omega)
    have iw : Iw (part n 4 5 x) := by
        have xb : 0 ≤ x ∧ x ≤ 65535 := by simp at x1; omega
        refine ⟨hn.k, hn.l, hn.z, hn.p, hn.g, fun t ht => ?_, hn.m⟩
        match t, ht with
        | 0, _ => exact hn.d 0 (by omega)
        | 1, _ => exact hn.d 1 (by omega)
        | 2, _ => exact hn.d 2 (by omega)
        | 3, _ => exact hn.d 3 (by omega)
        | 4, _ => exact hn.d 4 (by omega)
        | 5, _ => exact xb
        | 6, _ => exact hn.d 6 (by omega)
        | 7, _ => exact hn.d 7 (by omega)
    refine ⟨p2.trans ?_, p1, iw⟩
    show S (one (ibytes n) (18, S (le 2 x.toNat))) = _
    rw [le_two]
    rfl
theorem patched46 (a b c : Int) (n : Ino) (w j x : Int) (hw : w % 5 = 4) (hj : j % 8 = 6) : Fn0 Try.prog 21 [geoT a b c, inoT n, .agg [iT w, iT j, iT x]] (.t (.c (.b true))) := by
  refine patched_law a b c n (part n 4 6 x) w j x 20 2 (made46 n w j x hw hj) (fun h => ?_) (fun h he => ?_)
  · have hb := iok_bd (ichk_ok h).2
    have := hb.d 6 (by omega)
    have h3 : 0 ≤ x ∧ x ≤ 65535 := by
      have : 0 ≤ x ∧ x ≤ 2560 := ⟨this.1, Int.le_trans this.2 (by decide)⟩
      omega
    exact pute_ok (by omega) (by omega) (by omega) h3.1 (by simp; omega)
  · have hn := (iok_bd (ichk_ok h).2).w
    obtain ⟨x0, x1⟩ := pute_bd he
    obtain ⟨p1, p2⟩ := pt_one (ibytes n) (ibytes_length n) he (by omega) (by omega) (by omega)
    have iw : Iw (part n 4 6 x) := by
        have xb : 0 ≤ x ∧ x ≤ 65535 := by simp at x1; omega
        refine ⟨hn.k, hn.l, hn.z, hn.p, hn.g, fun t ht => ?_, hn.m⟩
        match t, ht with
        | 0, _ => exact hn.d 0 (by omega)
        | 1, _ => exact hn.d 1 (by omega)
        | 2, _ => exact hn.d 2 (by omega)
        | 3, _ => exact hn.d 3 (by omega)
        | 4, _ => exact hn.d 4 (by omega)
        | 5, _ => exact hn.d 5 (by omega)
        | 6, _ => exact xb
        | 7, _ => exact hn.d 7 (by omega)
    refine ⟨p2.trans ?_, p1, iw⟩
    show S (one (ibytes n) (20, S (le 2 x.toNat))) = _
    rw [le_two]
    rfl
theorem patched47 (a b c : Int) (n : Ino) (w j x : Int) (hw : w % 5 = 4) (hj : j % 8 = 7) : Fn0 Try.prog 21 [geoT a b c, inoT n, .agg [iT w, iT j, iT x]] (.t (.c (.b true))) := by
  refine patched_law a b c n (part n 4 7 x) w j x 22 2 (made47 n w j x hw hj) (fun h => ?_) (fun h he => ?_)
  · have hb := iok_bd (ichk_ok h).2
    have := hb.d 7 (by omega)
    have h3 : 0 ≤ x ∧ x ≤ 65535 := by
      have : 0 ≤ x ∧ x ≤ 2560 := ⟨this.1, Int.le_trans this.2 (by decide)⟩
      omega
    exact pute_ok (by omega) (by omega) (by omega) h3.1 (by simp; omega)
  · have hn := (iok_bd (ichk_ok h).2).w
    obtain ⟨x0, x1⟩ := pute_bd he
    obtain ⟨p1, p2⟩ := pt_one (ibytes n) (ibytes_length n) he (by omega) (by omega) (by omega)
    have iw : Iw (part n 4 7 x) := by
        have xb : 0 ≤ x ∧ x ≤ 65535 := by simp at x1; omega
        refine ⟨hn.k, hn.l, hn.z, hn.p, hn.g, fun t ht => ?_, hn.m⟩
        match t, ht with
        | 0, _ => exact hn.d 0 (by omega)
        | 1, _ => exact hn.d 1 (by omega)
        | 2, _ => exact hn.d 2 (by omega)
        | 3, _ => exact hn.d 3 (by omega)
        | 4, _ => exact hn.d 4 (by omega)
        | 5, _ => exact hn.d 5 (by omega)
        | 6, _ => exact hn.d 6 (by omega)
        | 7, _ => exact xb
    refine ⟨p2.trans ?_, p1, iw⟩
    show S (one (ibytes n) (22, S (le 2 x.toNat))) = _
    rw [le_two]
    rfl
theorem inodePatched_true (a b c : Int) (n : Ino) (p q x : Int) (w : World) : Calls Try.prog 21 #[geo a b c, ival n, .agg #[.int .i64 p, .int .i64 q, .int .i64 x]] w fun e w' => e = .returned (.bool true) ∧ RowKit.Below w.heap.size w w' := by
  have h5 : p % 5 = 0 ∨ p % 5 = 1 ∨ p % 5 = 2 ∨ p % 5 = 3 ∨ p % 5 = 4 := by omega
  rcases h5 with h | h | h | h | h
  · exact (patched0 a b c n p q x h).h w
  · exact (patched1 a b c n p q x h).h w
  · exact (patched2 a b c n p q x h).h w
  · exact (patched3 a b c n p q x h).h w
  · have h8 : q % 8 = 0 ∨ q % 8 = 1 ∨ q % 8 = 2 ∨ q % 8 = 3 ∨ q % 8 = 4 ∨ q % 8 = 5 ∨ q % 8 = 6 ∨ q % 8 = 7 := by omega
    rcases h8 with g | g | g | g | g | g | g | g
    · exact (patched40 a b c n p q x h g).h w
    · exact (patched41 a b c n p q x h g).h w
    · exact (patched42 a b c n p q x h g).h w
    · exact (patched43 a b c n p q x h g).h w
    · exact (patched44 a b c n p q x h g).h w
    · exact (patched45 a b c n p q x h g).h w
    · exact (patched46 a b c n p q x h g).h w
    · exact (patched47 a b c n p q x h g).h w
end Cw
