/- Maps of places; an inode, or a block, is taken by a side, by reckoning. -/
import Derived.Test.YtclcibpghonidaaGreatDoorSoft
import Derived.Test.YtclcibpghonidaaGreatDoorAlc
import Derived.Shelf.Strings.SlTrimAscii
import Derived.Test.YtclcibpghonidaaGreatDoorBag
namespace Vc
open Go Go.RowKit
section
variable {P : Program} {F : Frm} {L : LL} {H : HL} {nx : Nat}
theorem Sat.same2 {φ ψ : AbP} {v0 : Value} {b1 b2 : Bool} {e : Env} {a : Act} {w : World} (t d n : Nat) (hd : lookH H d = some (b1, .ab φ)) (hp : Pins φ v0) (hn : lookH H n = some (b2, .ab ψ)) (hq : Pins ψ v0) (hl : look t L = some (.t (.c (.nm d)))) (hW : WF L H nx) (S : Sat F (fun t => look t L) (lookH H) e a w) :
    WF ((t, .t (.c (.nm n))) :: L) H nx ∧ Sat F (fun u => look u ((t, .t (.c (.nm n))) :: L)) (lookH H) e a w := by
  have hv : e.val d = v0 := hp _ _ _ (S.ob d b1 _ hd).1.1
  have hb : e.val n = v0 := hq _ _ _ (S.ob n b2 _ hn).1.1
  refine ⟨⟨fun t' v' hv' j hj => ?_, hW.h⟩, ⟨S.fr, S.sz, S.df, fun t' v' hv' => ?_, S.ob, S.dj⟩⟩
  · rw [look_cons] at hv'
    split at hv'
    · cases hv'
      simp [SV.ns, TV.ns, CV.ns] at hj
      rw [hj]
      exact (hW.h n _ hn).1
    · exact hW.l t' v' hv' j hj
  · rw [look_cons] at hv'
    split at hv'
    · rename_i ht
      cases hv'
      subst ht
      rw [S.sl _ _ hl]
      show e.val d = e.val n
      rw [hv, hb]
    · exact S.sl t' v' hv'
theorem Done.same2 {Q : Act → World → Prop} {φ ψ : AbP} {v0 : Value} {b1 b2 : Bool} (t d n : Nat) (hd : lookH H d = some (b1, .ab φ)) (hp : Pins φ v0) (hn : lookH H n = some (b2, .ab ψ)) (hq : Pins ψ v0) (hl : look t L = some (.t (.c (.nm d)))) (h : Done F Q ((t, .t (.c (.nm n))) :: L) H nx) : Done F Q L H nx :=
  ⟨fun hW e a w S => let ⟨hW', S'⟩ := S.same2 t d n hd hp hn hq hl hW; h.h hW' e a w S'⟩
/-- A pointer alone. -/
def ptrP (b : Nat) : AbP := fun v _ _ => v = ptr b
theorem ptrP_st (b : Nat) : stable (ptrP b) := fun v F w w' h _ => h
theorem ptrP_pins (b : Nat) : Pins (ptrP b) (ptr b) := fun v F w h => h
end
/-- A function that takes two things, and makes others. -/
theorem fnK2 {P : Program} {f : FuncId} {fn : Func} {c : Code} (N : Nat) (hf : P.funcs[f]? = some fn) (hb : fn.body = some c) (hN : fn.ntmps = N) {d r : Nat} {bs : List TV} {H : HL} {nx : Nat} {φ ψ : AbP} {v v' : SV} {news news' : List (Bool × Ob)}
    (hd : lookH H d = some (true, .ab φ)) (hr : lookH H r = some (true, .ab ψ)) (hdr : d ≠ r) (hbs : bares bs = true) (hl : Nat.ble (bs.length + 1) N = true) (hW : wfL 2 (argsL 0 ((TV.c (.nm 0) :: bs).map .t)) = true)
    (hv : v'.re (nx + ·) = v) (hnw : reN (nx + ·) news' = news) (hvr : inR 0 news'.length v'.ns = true) (hnr : newsR 0 news'.length news' = true)
    (hg : ∀ w W, At P ⟨w, W, N⟩ (bodyPost P fn (MPost w W v' news')) c [] (argsL 0 ((TV.c (.nm 0) :: bs).map .t)) [(0, some (true, .ab φ)), (1, some (true, .ab ψ))] 2) :
    FnH P f (.c (.nm d) :: bs) H nx ⟨v, news, [(d, none), (r, none)], []⟩ := by
  refine fnK N hf hb hN (args' := .c (.nm 0) :: bs) (H' := [(0, some (true, .ab φ)), (1, some (true, .ab ψ))]) (nx' := 2) [d, r] (fun e w M => ?_) hl hW rfl hv hnw rfl hvr hnr hg
  refine ⟨e.comp fun n => if n = 0 then d else r, ⟨fun n b o hn => ?_, fun n o m c q hn hm hne => ?_⟩, ?_⟩
  · rw [lookH_cons] at hn
    split at hn
    · rename_i h0
      cases hn
      subst h0
      obtain ⟨h1, h2⟩ := M.ob d true _ hd
      exact ⟨h1, fun g hg => ⟨h2 g hg, fun _ => ⟨d, by simp, hg⟩⟩⟩
    · rw [lookH_cons] at hn
      split at hn
      · rename_i h0
        cases hn
        subst h0
        obtain ⟨h1, h2⟩ := M.ob r true _ hr
        exact ⟨h1, fun g hg => ⟨h2 g hg, fun _ => ⟨r, by simp, hg⟩⟩⟩
      · cases hn
  · have hc : ∀ {n : Nat} {z : Bool × Ob}, lookH [(0, some (true, .ab φ)), (1, some (true, .ab ψ))] n = some z → n = 0 ∨ n = 1 := by
      intro n z h
      rw [lookH_cons] at h
      split at h
      · left; assumption
      · rw [lookH_cons] at h
        split at h
        · right; assumption
        · cases h
    intro g hg hg'
    rcases hc hn with rfl | rfl <;> rcases hc hm with rfl | rfl
    · exact hne rfl
    · exact M.dj d _ r _ _ hd hr hdr g hg hg'
    · exact M.dj r _ d _ _ hr hd (fun h => hdr h.symm) g hg hg'
    · exact hne rfl
  · rw [List.map_cons, List.map_cons, bares_den hbs e, ← bares_den hbs (e.comp fun n => if n = 0 then d else r)]
    rfl
end Vc
namespace Cw
open Go Vc
open Go.Proofs
set_option maxRecDepth 100000
/-- A map of n places. -/
structure MapOk (l : List UInt8) (n : Nat) : Prop where
  len : l.length = 64
  n1 : 1 ≤ n
  n64 : n ≤ 64
  lo : ∀ b ∈ l.take n, b = 0 ∨ b = 1
  hi : ∀ b ∈ l.drop n, b = 0
theorem dropWhile_nil {α : Type} {p : α → Bool} : ∀ {l : List α}, (∀ x ∈ l, p x = true) → l.dropWhile p = []
  | [], _ => rfl
  | x :: l, h => by
    rw [List.dropWhile_cons, if_pos (h x (List.mem_cons_self ..))]
    exact dropWhile_nil fun y hy => h y (List.mem_cons_of_mem _ hy)
theorem trim_all {l cs : List UInt8} (h : ∀ b ∈ l, b ∈ cs) : Lib.trimS l cs = [] := by
  have h1 : Lib.trimRightS l cs = [] := by
    unfold Lib.trimRightS
    rw [List.reverse_eq_nil_iff]
    refine dropWhile_nil fun x hx => ?_
    exact List.contains_iff_mem.2 (h x (List.mem_reverse.1 hx))
  rw [Lib.trimS, h1]
  rfl
theorem trim01 {s : ByteArray} (hs : s.size ≤ 9223372036854775807) (h : ∀ b ∈ s.data.toList, b = 0 ∨ b = 1) : Fn0 Tryz.prog 133 [.c (.s s), .c (.s ⟨#[0, 1]⟩)] (.t (.c (.s ⟨#[]⟩))) := ⟨fun w => by
  have hc := Any.strings_Trim_laid Tryz.lays160 (by kernel_rfl) s ⟨#[0, 1]⟩ w hs (by decide) (ascii_of_all (by decide))
  rw [trim_all (fun b hb => by rcases h b hb with rfl | rfl <;> decide)] at hc
  exact hc⟩
theorem trim0 {s : ByteArray} (hs : s.size ≤ 9223372036854775807) (h : ∀ b ∈ s.data.toList, b = 0) : Fn0 Tryz.prog 133 [.c (.s s), .c (.s ⟨#[0]⟩)] (.t (.c (.s ⟨#[]⟩))) := ⟨fun w => by
  have hc := Any.strings_Trim_laid Tryz.lays160 (by kernel_rfl) s ⟨#[0]⟩ w hs (by decide) (ascii_of_all (by decide))
  rw [trim_all (fun b hb => by rw [h b hb]; decide)] at hc
  exact hc⟩
theorem index0 (s : ByteArray) : Fn0 Tryz.prog 123 [.c (.s s), .c (.s ⟨#[0]⟩)] (.t (.c (iT (Lib.indexByte s.data.toList 0)))) := ⟨fun w => (Tryz.strings_Index_one s 0 w).mono fun e w' ⟨h1, h2⟩ => ⟨h1, h2 ▸ RowKit.Below.refl _ _⟩⟩
theorem ext_take (l : List UInt8) (n : Nat) : ((S l).extract 0 n).data.toList = l.take n := by
  rw [ext_data, S_data]
  simp
theorem ext_drop {l : List UInt8} {n m : Nat} (hm : l.length ≤ m) : ((S l).extract n m).data.toList = l.drop n := by
  rw [ext_data, S_data, List.take_of_length_le (by rw [List.length_drop]; omega)]
theorem ext_sz (l : List UInt8) (n m : Nat) : ((S l).extract n m).size ≤ l.length := by
  rw [size_data, ext_data, S_data, List.length_take, List.length_drop]
  omega
set_option maxRecDepth 100000 in
set_option maxHeartbeats 4000000 in
theorem mcheck0 {l : List UInt8} {n : Nat} (h : MapOk l n) : Fn0 Tryz.prog 105 [.c (.s (S l)), .c (iT (n : Nat))] (.t (.c (iT 0))) := by
  refine fn0 (fn := Tryz.f105) 28 rfl rfl rfl rfl rfl fun w => ?_
  have n1 := h.n1
  have n64 := h.n64
  have hl := h.len
  have hm := many0 (n := (n : Nat)) (p := 0) (by omega) (by omega)
  have hsz : (S l).size = 64 := by rw [S_size]; exact hl
  have g1 : (((S l).size : Int) != 64) = false := by rw [hsz]; rfl
  have z0 : (0 : Int) ≤ (n : Int) := by omega
  have z1 : (n : Int) ≤ ((S l).size : Int) := by omega
  have t1 : Fn0 Tryz.prog 133 [.c (.s ((S l).extract 0 (n : Int).toNat)), .c (.s ⟨#[0, 1]⟩)] (.t (.c (.s ⟨#[]⟩))) := trim01 (by have := ext_sz l 0 (n : Int).toNat; omega) (by rw [Int.toNat_natCast, ext_take]; exact h.lo)
  have t2 : Fn0 Tryz.prog 133 [.c (.s ((S l).extract (n : Int).toNat (S l).size)), .c (.s ⟨#[0]⟩)] (.t (.c (.s ⟨#[]⟩))) := trim0 (by have := ext_sz l (n : Int).toNat (S l).size; omega) (by rw [Int.toNat_natCast, ext_drop (by omega)]; exact h.hi)
  refine rn [(7, .ret (.t (.c (iT 0)))), (9, .dec false), (14, .dec false), (18, .ret (.t (.c (.s ⟨#[]⟩)))), (21, .dec false), (25, .ret (.t (.c (.s ⟨#[]⟩)))), (27, .dec false)] rfl (by (repeat' (first | exact trivial | exact rfl | exact trivial | exact fun _ => trivial | first | exact hm | exact g1 | exact z0 | exact z1 | exact ⟨z0, z1⟩ | exact t1 | exact t2 | rfl | decide | exact (by simp : (!ByteArray.toList ⟨#[]⟩ == ByteArray.toList ⟨#[]⟩) = false) | refine And.intro ?_ ?_))) ?_
  exact ret0 tysOk rfl (by repeat' (first | exact trivial | exact rfl | refine And.intro ?_ ?_)) rfl
theorem mask0 {l : List UInt8} {n : Nat} (h : MapOk l n) {p : Int} (hp : 0 ≤ p ∧ p < (n : Int)) : Fn0 Tryz.prog 68 [.c (.s (S l)), .c (iT (n : Nat)), .c (iT p)] (.t (.c (iT 0))) := by
  refine fn0 (fn := Tryz.f68) 17 rfl rfl rfl rfl rfl fun w => ?_
  have n1 := h.n1
  have n64 := h.n64
  have hm := many0 (n := (n : Nat)) (p := p) (by omega) hp
  refine rn [(10, .ret (.t (.c (iT 0)))), (12, .dec false), (16, .ret (.t (.c (iT 0))))] rfl (by (repeat' (first | exact trivial | exact rfl | exact trivial | exact fun _ => trivial | first | exact mcheck0 h | exact hm | rfl | decide | refine And.intro ?_ ?_))) ?_
  exact ret0 tysOk rfl (by repeat' (first | exact trivial | exact rfl | refine And.intro ?_ ?_)) rfl
set_option maxRecDepth 100000 in
set_option maxHeartbeats 4000000 in
/-- The first free place. -/
theorem mfind0 {l : List UInt8} {n : Nat} (h : MapOk l n) {x : Int} (hx : Lib.indexByte (l.take n) 0 = x) (h0 : 0 ≤ x) (h1 : x ≤ 64) : Fn0 Tryz.prog 91 [.c (.s (S l)), .c (iT (n : Nat)), .c (iT 0)] (.tup [.c (iT x), .c (iT 0)]) := by
  refine fn0 (fn := Tryz.f91) 35 rfl rfl rfl rfl rfl fun w => ?_
  have n1 := h.n1
  have n64 := h.n64
  have hl := h.len
  have hsz : (S l).size = 64 := by rw [S_size]; exact hl
  have hm := mask0 h (p := 0) (by omega)
  have z0 : (0 : Int) ≤ (n : Int) := by omega
  have z1 : (n : Int) ≤ ((S l).size : Int) := by omega
  have hi : Fn0 Tryz.prog 123 [.c (.s ((S l).extract (0 : Int).toNat (n : Int).toNat)), .c (.s ⟨#[0]⟩)] (.t (.c (iT x))) := by
    have := index0 ((S l).extract 0 n)
    rw [ext_take, hx] at this
    exact this
  have g1 : decide (x ≥ 0) = true := decide_eq_true h0
  have w1 : IntKind.i64.wrap (0 + x) = x := by rw [wrap_sm (by omega) (by omega)]; omega
  refine rn [(14, .ret (.t (.c (iT 0)))), (16, .dec false), (22, .ret (.t (.c (iT x)))), (24, .dec true)] rfl (by (repeat' (first | exact trivial | exact rfl | exact trivial | exact fun _ => trivial | first | exact hm | exact z0 | exact z1 | exact ⟨z0, z1⟩ | exact hi | exact g1 | rfl | decide | refine And.intro ?_ ?_))) ?_
  exact ret0 tysOk rfl (by (repeat' (first | exact trivial | exact rfl | exact trivial | exact fun _ => trivial | exact w1 | refine And.intro ?_ ?_))) rfl
theorem mset0 {n p : Int} (hn : 1 ≤ n ∧ n ≤ 64) (hp : 0 ≤ p ∧ p < n) : Fn0 Tryz.prog 124 [.c (iT n), .c (iT p), .c (.b true)] (.tup [.agg [iT p, .s ⟨#[1]⟩], .c (iT 0)]) := by
  refine fn0 (fn := Tryz.f124) 22 rfl rfl rfl rfl rfl fun w => ?_
  refine rn [(12, .ret (.t (.c (iT 0)))), (14, .dec false), (19, .dec true)] rfl (by (repeat' (first | exact trivial | exact rfl | exact trivial | exact fun _ => trivial | first | exact many0 hn hp | rfl | decide | refine And.intro ?_ ?_))) ?_
  exact ret0 tysOk rfl (by repeat' (first | exact trivial | exact rfl | refine And.intro ?_ ?_)) rfl
end Cw
namespace Cw
open Go Vc
open Go.Proofs
set_option maxRecDepth 100000
theorem nilTs {H : HL} {nx d b bd bk : Nat} {node : Int} {R : List Ch} {fly : List (Int × Int)} {b1 : Bool} (hd : lookH H d = some (b1, .ab (sfB R fly node b bd bk))) {Lc : LL} {o : Oper} {x y : Operand} (hop : o.op = .binOp .eql 43 x y 43) (hx : ev Lc x = some (.c (.nm d))) (hy : ev Lc y = some (.c .np)) : Spec Tryz.prog Lc H nx o ⟨.t (.c (.b false)), [], [], []⟩ :=
  spec_nil tysOk hop hx hy rfl rfl hd (NotNil.pins (sfB_pins _ _ _ _ _ _))
theorem pt_nil {l : List UInt8} (h : (Cw.S l).size = 64) : pt (Cw.S l) [] = Cw.S l ∧ pte (Cw.S l) [] = 0 := by
  have h0 : pte (Cw.S l) [] = 0 := by
    rw [pte, if_neg (by omega), if_neg (by decide)]
    rfl
  refine ⟨?_, h0⟩
  rw [pt, if_pos h0, S_data]
  rfl
theorem fcheck_at {x : Int} (h : 0 ≤ x ∧ x < 64) : fcheck x 1 = 0 := by
  rw [fcheck, if_pos]
  simp only [finside, Bool.and_eq_true, Bool.or_eq_true, decide_eq_true_eq]
  omega
section
variable {H : HL} {nx s d q b bd bk : Nat} {a bb c : Int} {b1 : Bool} {S : List ByteArray} {Y : List (Int × Wr)} {last : Int} {l : List UInt8}
set_option maxRecDepth 100000 in
set_option maxHeartbeats 4000000 in
theorem awrong_h (hs : lookH H s = some (true, .ab (sfB [] [] 0 b bd bk))) (hq : lookH H q = some (b1, .own 3 1 1 (ivs [0]))) (hqs : inL q [s] = false) (hg : Gok a bb c) :
    FnH Tryz.prog 61 [.c (.nm s), geoT a bb c, .c (.nm q)] H nx ⟨.t (.c (iT 0)), [], [(s, some (.ab (sfB [] [] 0 b bd bk)))], []⟩ := by
  refine fnAs (fn := Tryz.f61) 32 rfl rfl rfl (args' := [.c (.nm 0), geoT a bb c, .c (.nm 1)]) [(s, sfB [] [] 0 b bd bk, sfB [] [] 0 b bd bk)] [(q, .own 3 1 1 (ivs [0]))] ⟨⟨hs, ptr b, sfB_pins _ _ _ _ _ _, sfB_pins _ _ _ _ _ _⟩, trivial⟩ ⟨⟨⟨_, hq⟩, fun _ => rfl, hqs⟩, trivial⟩ (by simp) rfl rfl rfl rfl (v' := .t (.c (iT 0))) (news' := []) rfl rfl rfl rfl rfl fun w Wh => ?_
  have hck := check0 a bb c
  rw [gcheck, if_pos hg] at hck
  have g1 : decide ((0 : Int) ≥ a) = false := decide_eq_false (by have := hg.1; omega)
  refine rn [(11, .spec ⟨.t (.c (.b false)), [], [], []⟩)] rfl (by (repeat' (first | exact trivial | exact rfl | exact nilTs rfl rfl rfl rfl | exact fun _ => nilTs rfl rfl rfl rfl | refine And.intro ?_ ?_))) ?_
  refine ⟨fun h => (by cases h), fun _ => ?_⟩
  refine rn [(13, .ret (.t (.c (iT 0)))), (15, .dec false)] rfl (by (repeat' (first | exact trivial | exact rfl | exact trivial | exact fun _ => trivial | first | exact hck | rfl | decide | refine And.intro ?_ ?_))) ?_
  refine At.unroll ?_
  refine rn [(20, .dec true), (22, .ld [iT 0]), (25, .dec false), (30, .dec false)] rfl (by (repeat' (first | exact trivial | exact rfl | exact trivial | exact fun _ => trivial | first | exact g1 | rfl | decide | refine And.intro ?_ ?_))) (nextRound ?_)
  refine rn [(20, .dec false)] rfl (by (repeat' (first | exact trivial | exact rfl | exact trivial | exact fun _ => trivial | decide | refine And.intro ?_ ?_))) (nextExit rfl ?_)
  refine rnA [] rfl (by repeat' (first | exact trivial | exact rfl | refine And.intro ?_ ?_)) ?_
  exact retM tysOk [(0, 0)] rfl (by repeat' (first | exact trivial | exact rfl | refine And.intro ?_ ?_)) (by repeat' (first | exact trivial | exact rfl | refine And.intro ?_ ?_)) rfl rfl
set_option maxRecDepth 100000 in
set_option maxHeartbeats 4000000 in
theorem alook_h (hs : lookH H s = some (true, .ab (sfB [] [] 0 b bd bk))) (hd : lookH H d = some (true, .ab (dP S Y last bk))) (hsd : s ≠ d) (hg : Gok a bb c) {m : Int} (hmp : mapAt a bb c 0 false = m) (hme : me a bb c 0 = 0) (hk : rdE S.length m = 0) (ht : rdT S m = Cw.S l) {n : Nat} (hn : bb = (n : Nat)) (hm : MapOk l n) :
    FnH Tryz.prog 90 [.c (.nm s), geoT a bb c, .c (iT 0), .c (.b false)] H nx ⟨.tup [.agg [.nm nx, iT m, .s (Cw.S l), iT (n : Nat)], .c (iT 0)], [(true, .ab (sfB [] [] 0 b bd bk)), (true, .ab (dP S Y last bk))], [(s, none), (d, none)], []⟩ := by
  subst hn
  refine fnK2 (fn := Tryz.f90) 48 rfl rfl rfl hs hd hsd (bs := [geoT a (n : Nat) c, .c (iT 0), .c (.b false)]) rfl rfl rfl (v' := .tup [.agg [.nm 0, iT m, .s (Cw.S l), iT (n : Nat)], .c (iT 0)]) (news' := [(true, .ab (sfB [] [] 0 b bd bk)), (true, .ab (dP S Y last bk))]) rfl rfl rfl rfl fun w Wh => ?_
  have hl := hm.len
  have hsz : (Cw.S l).size = 64 := by rw [S_size]; exact hl
  have hmap := gmap0 a (n : Nat) c 0 false
  rw [hmp, hme] at hmap
  refine At.ex (φ := fun x : { x : DV × WW // DR x.1 x.2 ([] : List Ch) } => sfP x.1.1 x.1.2 ([] : List Ch).length [] 0 b bd bk) 0 rfl (fun x => absP_stable _ _) fun x => ?_
  obtain ⟨⟨V, W⟩, hdr⟩ := x
  have hr := fun (H : HL) (nx : Nat) (h0 : lookH H 0 = some (true, .ab (sfP V W ([] : List Ch).length [] 0 b bd bk))) (h1 : lookH H 1 = some (true, .ab (dP S Y last bk))) => softReadG (nx := nx) h0 h1 (by decide) hdr hk ht (by omega) (pt_nil hsz)
  refine rn [(16, .dec false), (24, .ret (.tup [.c (iT m), .c (iT 0)])), (32, .spec ⟨.tup [.c (.s (Cw.S l)), .c (iT 0)], [], [(0, some (.ab (sfB [] [] 0 b bd bk))), (1, some (.ab (dP S Y last bk)))], []⟩), (37, .dec false), (38, .dec false), (43, .ret (.t (.c (iT 0)))), (45, .dec false)] rfl (by (repeat' (first | exact trivial | exact rfl | exact trivial | exact fun _ => trivial | first | exact hmap | exact hr _ _ rfl rfl | exact mcheck0 hm | rfl | decide | refine And.intro ?_ ?_))) ?_
  exact retM tysOk [(0, 0), (1, 1)] rfl (by repeat' (first | exact trivial | exact rfl | refine And.intro ?_ ?_)) (by repeat' (first | exact trivial | exact rfl | refine And.intro ?_ ?_)) rfl rfl
set_option maxRecDepth 100000 in
set_option maxHeartbeats 4000000 in
theorem cset_h (hs : lookH H s = some (true, .ab (sfB [] [] 0 b bd bk))) (hd : lookH H d = some (true, .ab (dP S Y last bk))) (hsd : s ≠ d) {m n x : Int} {t : ByteArray} (hn : 1 ≤ n ∧ n ≤ 64) (hx : 0 ≤ x ∧ x < n) (hk : rdE S.length m = 0) (hk2 : 0 ≤ m ∧ m < 2048) :
    FnH Tryz.prog 92 [.agg [.nm s, iT m, .s t, iT n], .c (iT x), .c (.b true), .c .nsl] H nx ⟨.tup [.c (iT 1), .c (iT 0)], [], [(s, some (.ab (sfB ([] ++ [newC (und []) 0 m (x, ⟨#[1]⟩) []]) [] 0 b bd bk))), (d, some (.ab (dP S Y last bk)))], []⟩ := by
  refine fnAs (fn := Tryz.f92) 32 rfl rfl rfl (args' := [.agg [.nm 0, iT m, .s t, iT n], .c (iT x), .c (.b true), .c .nsl]) [(s, sfB [] [] 0 b bd bk, sfB ([] ++ [newC (und []) 0 m (x, ⟨#[1]⟩) []]) [] 0 b bd bk), (d, dP S Y last bk, dP S Y last bk)] [] ⟨⟨hs, ptr b, sfB_pins _ _ _ _ _ _, sfB_pins _ _ _ _ _ _⟩, ⟨hd, ptr bk, disk_pins _ _ _ _, disk_pins _ _ _ _⟩, trivial⟩ trivial (by simp [hsd]) rfl rfl rfl rfl (v' := .tup [.c (iT 1), .c (iT 0)]) (news' := []) rfl rfl rfl rfl rfl fun w Wh => ?_
  refine At.ex (φ := fun x : { x : DV × WW // DR x.1 x.2 ([] : List Ch) } => sfP x.1.1 x.1.2 ([] : List Ch).length [] 0 b bd bk) 0 rfl (fun x => absP_stable _ _) fun y => ?_
  obtain ⟨⟨V, W⟩, hdr⟩ := y
  have ha := fun (H : HL) (nx : Nat) (h0 : lookH H 0 = some (true, .ab (sfP V W ([] : List Ch).length [] 0 b bd bk))) (h1 : lookH H 1 = some (true, .ab (dP S Y last bk))) => softAddG (nx := nx) (t := ⟨#[1]⟩) h0 h1 (by decide) hdr (by decide) hk hk2 (fcheck_at (x := x) (by omega)) (by decide)
  refine rn [(17, .ret (.tup [.agg [iT x, .s ⟨#[1]⟩], .c (iT 0)])), (21, .dec false), (29, .spec ⟨.tup [.c (iT 1), .c (iT 0)], [], [(0, some (.ab (sfB ([] ++ [newC (und []) 0 m (x, ⟨#[1]⟩) []]) [] 0 b bd bk))), (1, some (.ab (dP S Y last bk)))], []⟩)] rfl (by (repeat' (first | exact trivial | exact rfl | exact trivial | exact fun _ => trivial | first | exact mset0 hn hx | exact ha _ _ rfl rfl | rfl | decide | refine And.intro ?_ ?_))) ?_
  exact retM tysOk [(0, 0), (1, 1)] rfl (by repeat' (first | exact trivial | exact rfl | refine And.intro ?_ ?_)) (by repeat' (first | exact trivial | exact rfl | refine And.intro ?_ ?_)) rfl rfl
/-- What the taking of a place adds. -/
def tkC (m x : Int) : Ch := newC (und []) 0 m (x, ⟨#[1]⟩) []
set_option maxRecDepth 100000 in
set_option maxHeartbeats 4000000 in
theorem atake_h (hs : lookH H s = some (true, .ab (sfB [] [] 0 b bd bk))) (hd : lookH H d = some (true, .ab (dP S Y last bk))) (hsd : s ≠ d) (hq : lookH H q = some (b1, .own 3 1 1 (ivs [0]))) (hqs : inL q [s, d] = false) (hg : Gok a bb c) {m : Int} (hmp : mapAt a bb c 0 false = m) (hme : me a bb c 0 = 0) (hk : rdE S.length m = 0) (hk2 : 0 ≤ m ∧ m < 2048) (ht : rdT S m = Cw.S l) {n : Nat} (hn : bb = (n : Nat)) (hm : MapOk l n) {x : Int} (hx : Lib.indexByte (l.take n) 0 = x) (hx0 : 0 ≤ x ∧ x < (n : Int)) :
    FnH Tryz.prog 59 [.c (.nm s), geoT a bb c, .c (.b false), .c (.nm q)] H nx ⟨.tup [.c (iT 0), .c (iT x), .c (iT 1), .c (iT 0)], [], [(s, some (.ab (sfB ([] ++ [tkC m x]) [] 0 b bd bk))), (d, some (.ab (dP S Y last bk)))], []⟩ := by
  refine fnAs (fn := Tryz.f59) 62 rfl rfl rfl (args' := [.c (.nm 0), geoT a bb c, .c (.b false), .c (.nm 2)]) [(s, sfB [] [] 0 b bd bk, sfB ([] ++ [tkC m x]) [] 0 b bd bk), (d, dP S Y last bk, dP S Y last bk)] [(q, .own 3 1 1 (ivs [0]))] ⟨⟨hs, ptr b, sfB_pins _ _ _ _ _ _, sfB_pins _ _ _ _ _ _⟩, ⟨hd, ptr bk, disk_pins _ _ _ _, disk_pins _ _ _ _⟩, trivial⟩ ⟨⟨⟨_, hq⟩, fun _ => rfl, hqs⟩, trivial⟩ (by simp [hsd]) rfl rfl rfl rfl (v' := .tup [.c (iT 0), .c (iT x), .c (iT 1), .c (iT 0)]) (news' := []) rfl rfl rfl rfl rfl fun w Wh => ?_
  show At _ _ _ _ _ _ [(0, some (true, .ab (sfB [] [] 0 b bd bk))), (1, some (true, .ab (dP S Y last bk))), (2, some (false, .own 3 1 1 (ivs [0])))] 3
  have hn1 := hm.n1
  have hn64 := hm.n64
  have hw := fun (H : HL) (nx : Nat) (h0 : lookH H 0 = some (true, .ab (sfB [] [] 0 b bd bk))) (h2 : lookH H 2 = some (false, .own 3 1 1 (ivs [0]))) => awrong_h (nx := nx) h0 h2 rfl hg
  have hlk := fun (H : HL) (nx : Nat) (h0 : lookH H 0 = some (true, .ab (sfB [] [] 0 b bd bk))) (h1 : lookH H 1 = some (true, .ab (dP S Y last bk))) => alook_h (nx := nx) h0 h1 (by decide) hg hmp hme hk ht hn hm
  have hf := mfind0 hm hx hx0.1 (by omega)
  have hset := fun (H : HL) (nx : Nat) (h0 : lookH H 4 = some (true, .ab (sfB [] [] 0 b bd bk))) (h1 : lookH H 5 = some (true, .ab (dP S Y last bk))) => cset_h (nx := nx) (t := Cw.S l) h0 h1 (by decide) (n := (n : Nat)) (by omega) hx0 hk hk2
  refine rn [(20, .spec ⟨.t (.c (iT 0)), [], [(0, some (.ab (sfB [] [] 0 b bd bk)))], []⟩), (22, .dec false)] rfl (by (repeat' (first | exact trivial | exact rfl | exact trivial | exact fun _ => trivial | first | exact hw _ _ rfl rfl | rfl | decide | refine And.intro ?_ ?_))) ?_
  refine At.unroll ?_
  refine rn [(27, .dec true), (29, .ld [iT 0]), (35, .spec ⟨.tup [.agg [.nm 4, iT m, .s (Cw.S l), iT (n : Nat)], .c (iT 0)], [(true, .ab (sfB [] [] 0 b bd bk)), (true, .ab (dP S Y last bk))], [(0, none), (1, none)], []⟩), (39, .dec false), (46, .ret (.tup [.c (iT x), .c (iT 0)])), (50, .dec false), (54, .spec ⟨.tup [.c (iT 1), .c (iT 0)], [], [(4, some (.ab (sfB ([] ++ [tkC m x]) [] 0 b bd bk))), (5, some (.ab (dP S Y last bk)))], []⟩)] rfl (by (repeat' (first | exact trivial | exact rfl | exact trivial | exact fun _ => trivial | first | exact hlk _ _ rfl rfl | exact hf | exact hset _ _ rfl rfl | rfl | decide | refine And.intro ?_ ?_))) ?_
  exact retM tysOk [(0, 4), (1, 5)] rfl (by repeat' (first | exact trivial | exact rfl | refine And.intro ?_ ?_)) (by repeat' (first | exact trivial | exact rfl | refine And.intro ?_ ?_)) rfl rfl
set_option maxRecDepth 100000 in
set_option maxHeartbeats 4000000 in
theorem ainode_h (hs : lookH H s = some (true, .ab (sfB [] [] 0 b bd bk))) (hd : lookH H d = some (true, .ab (dP S Y last bk))) (hsd : s ≠ d) (hq : lookH H q = some (b1, .own 3 1 1 (ivs [0]))) (hqs : inL q [s, d] = false) (hg : Gok a bb c) {m : Int} (hmp : mapAt a bb c 0 false = m) (hme : me a bb c 0 = 0) (hk : rdE S.length m = 0) (hk2 : 0 ≤ m ∧ m < 2048) (ht : rdT S m = Cw.S l) {n : Nat} (hn : bb = (n : Nat)) (hm : MapOk l n) {x : Int} (hx : Lib.indexByte (l.take n) 0 = x) (hx0 : 0 ≤ x ∧ x < (n : Int)) :
    FnH Tryz.prog 30 [.c (.nm s), geoT a bb c, .c (.nm q)] H nx ⟨.tup [.c (iT (x + 1)), .c (iT 1), .c (iT 0)], [], [(s, some (.ab (sfB ([] ++ [tkC m x]) [] 0 b bd bk))), (d, some (.ab (dP S Y last bk)))], []⟩ := by
  refine fnAs (fn := Tryz.f30) 31 rfl rfl rfl (args' := [.c (.nm 0), geoT a bb c, .c (.nm 2)]) [(s, sfB [] [] 0 b bd bk, sfB ([] ++ [tkC m x]) [] 0 b bd bk), (d, dP S Y last bk, dP S Y last bk)] [(q, .own 3 1 1 (ivs [0]))] ⟨⟨hs, ptr b, sfB_pins _ _ _ _ _ _, sfB_pins _ _ _ _ _ _⟩, ⟨hd, ptr bk, disk_pins _ _ _ _, disk_pins _ _ _ _⟩, trivial⟩ ⟨⟨⟨_, hq⟩, fun _ => rfl, hqs⟩, trivial⟩ (by simp [hsd]) rfl rfl rfl rfl (v' := .tup [.c (iT (x + 1)), .c (iT 1), .c (iT 0)]) (news' := []) rfl rfl rfl rfl rfl fun w Wh => ?_
  have hn64 := hm.n64
  have hw := fun (H : HL) (nx : Nat) (h0 : lookH H 0 = some (true, .ab (sfB [] [] 0 b bd bk))) (h1 : lookH H 1 = some (true, .ab (dP S Y last bk))) (h2 : lookH H 2 = some (false, .own 3 1 1 (ivs [0]))) => atake_h (nx := nx) h0 h1 (by decide) h2 rfl hg hmp hme hk hk2 ht hn hm hx hx0
  have w0 : IntKind.i64.wrap (0 * bb) = 0 := by rw [Int.zero_mul]; rfl
  have w1 : IntKind.i64.wrap (0 + x) = x := by rw [wrap_sm (by omega) (by omega)]; omega
  have w2 : IntKind.i64.wrap (x + 1) = x + 1 := wrap_sm (by omega) (by omega)
  have w3 : IntKind.i64.wrap (IntKind.i64.wrap (IntKind.i64.wrap (0 * bb) + x) + 1) = x + 1 := by rw [w0, w1, w2]
  refine rn [(15, .spec ⟨.tup [.c (iT 0), .c (iT x), .c (iT 1), .c (iT 0)], [], [(0, some (.ab (sfB ([] ++ [tkC m x]) [] 0 b bd bk))), (1, some (.ab (dP S Y last bk)))], []⟩), (21, .dec false)] rfl (by (repeat' (first | exact trivial | exact rfl | exact trivial | exact fun _ => trivial | first | exact hw _ _ rfl rfl rfl | rfl | decide | refine And.intro ?_ ?_))) ?_
  exact retM tysOk [(0, 0), (1, 1)] rfl (by (repeat' (first | exact trivial | exact rfl | exact trivial | exact fun _ => trivial | exact w3 | refine And.intro ?_ ?_))) (by repeat' (first | exact trivial | exact rfl | refine And.intro ?_ ?_)) rfl rfl
end
end Cw
namespace Cw
open Go Vc
open Go.Proofs
set_option maxRecDepth 100000
theorem pins_absK {O : List (Bool × Ob)} {b k j : Nat} {c : Bool} (h : O[k]? = some (c, .pin j b)) : Pins (absP O (.p j 0)) (ptr b) := by
  rintro v F w ⟨e, h1, h2, _⟩
  rw [h1]
  have := (h2 k c _ h).1.2
  simp only [CV.den, ptr, this]
def ptrX : AbP := exP ptrP
theorem ptrX_nn : NotNil ptrX := NotNil.ex ptrP_pins
theorem ptrX_st : stable ptrX := exP_stable ptrP_st
/-- A side with its disk. -/
def sdO (F : List ByteArray) (b bd bk : Nat) : List (Bool × Ob) := [(true, .ab (sfB [] [] 0 b bd bk)), (true, .ab (dP F [] 0 bk)), (false, .pin 2 b)]
def sdP (F : List ByteArray) (b bd bk : Nat) : AbP := absP (sdO F b bd bk) (.p 2 0)
theorem sdP_pins (F : List ByteArray) (b bd bk : Nat) : Pins (sdP F b bd bk) (ptr b) := pins_absK (k := 2) rfl
def sdX (F : List ByteArray) : AbP := exP fun p : Nat × Nat × Nat => sdP F p.1 p.2.1 p.2.2
theorem sdX_st (F : List ByteArray) : stable (sdX F) := exP_stable fun _ => absP_stable _ _
theorem sdX_nn (F : List ByteArray) : NotNil (sdX F) := fun v G w ⟨p, h⟩ => ⟨p.1, sdP_pins F p.1 p.2.1 p.2.2 v G w h⟩
theorem nilPt {H : HL} {nx d : Nat} {b1 : Bool} (hd : lookH H d = some (b1, .ab ptrX)) {Lc : LL} {o : Oper} {x y : Operand} (hop : o.op = .binOp .eql 42 x y 42) (hx : ev Lc x = some (.c (.nm d))) (hy : ev Lc y = some (.c .np)) : Spec Tryz.prog Lc H nx o ⟨.t (.c (.b false)), [], [], []⟩ :=
  spec_nil tysOk hop hx hy rfl rfl hd ptrX_nn
theorem nilSd {H : HL} {nx d : Nat} {b1 : Bool} {F : List ByteArray} (hd : lookH H d = some (b1, .ab (sdX F))) {Lc : LL} {o : Oper} {x y : Operand} (hop : o.op = .binOp .eql 43 x y 43) (hx : ev Lc x = some (.c (.nm d))) (hy : ev Lc y = some (.c .np)) : Spec Tryz.prog Lc H nx o ⟨.t (.c (.b false)), [], [], []⟩ :=
  spec_nil tysOk hop hx hy rfl rfl hd (sdX_nn F)
theorem S0_len (n : Nat) : (S0 n).length = n := by rw [S0, List.length_set, List.length_replicate]
section
variable {H : HL} {nx : Nat} {a bb c : Int}
set_option maxRecDepth 100000 in
set_option maxHeartbeats 8000000 in
theorem laidA_h (hg : Gok a bb c) :
    FnH Tryz.prog 12 [geoT a bb c] H nx ⟨.tup [.c (.nm nx), .c (.nm (nx + 1))], [(true, .ab ptrX), (true, .ab (sdX (fmtL a bb c)))], [], []⟩ := by
  obtain ⟨hn, hs, h2, h132, hz, h403, hme, hmp, hie, his⟩ := fgeo hg
  refine fnM (fn := Tryz.f12) 34 rfl rfl rfl (args' := [geoT a bb c]) (H' := []) (nx' := 0) [] (fun e w M => ⟨e, ⟨fun n b o h => (by cases h), fun n o m c q h => (by cases h)⟩, rfl⟩) rfl rfl rfl (fun e w M u hu => by cases hu) (fun u hu => by cases hu) (by simp) (v' := .tup [.c (.nm 0), .c (.nm 1)]) (news' := [(true, .ab ptrX), (true, .ab (sdX (fmtL a bb c)))]) rfl rfl rfl rfl rfl fun w Wh => ?_
  have hsz := gsize0 a bb c
  rw [hs] at hsz
  have hnew := fun (H : HL) (nx : Nat) => newA (H := H) (nx := nx) (n := fZ a bb c) (by omega) (by omega)
  refine rn [(9, .ret (.t (.c (iT (fZ a bb c : Nat))))), (10, .spec ⟨.tup [.c (.nm 1), .c (iT 0)], [(true, .ab (exP (dP (S0 (fZ a bb c)) [] 0)))], [], []⟩), (20002, .dec true)] rfl (by (repeat' (first | exact trivial | exact rfl | exact trivial | exact fun _ => trivial | first | exact hsz | exact hnew _ _ | rfl | decide | refine And.intro ?_ ?_))) ?_
  refine At.ex (φ := dP (S0 (fZ a bb c)) [] 0) 1 rfl (fun _ => absP_stable _ _) fun bk => ?_
  have hlay := fun (H : HL) (nx : Nat) (h1 : lookH H 1 = some (true, .ab (dP (S0 (fZ a bb c)) [] 0 bk))) => alay_h (nx := nx) h1 hg (S0_len _)
  have hso := fun (H : HL) (nx : Nat) (h1 : lookH H 1 = some (true, .ab (dP (fmtL a bb c) [] 0 bk))) => softNewG (nx := nx) (node := 0) h1 (.inl rfl)
  refine rn [(14, .spec ⟨.t (.c (.b false)), [], [], []⟩), (15, .dec false), (19, .dec false), (22, .spec ⟨.t (.c (iT 0)), [], [(1, some (.ab (dP (fmtL a bb c) [] 0 bk)))], []⟩), (24, .dec false), (27, .spec ⟨.tup [.c (.nm 2), .c (iT 0)], [(true, .ab (sfX 0 bk))], [(1, some (.ab (dP (fmtL a bb c) [] 0 bk)))], []⟩)] rfl (by (repeat' (first | exact trivial | exact rfl | exact trivial | exact fun _ => trivial | first | exact nilDq2 rfl rfl rfl rfl | exact hlay _ _ rfl | exact hso _ _ rfl | rfl | decide | refine And.intro ?_ ?_))) ?_
  refine ⟨fun h => absurd h (by decide), fun _ => ?_⟩
  refine At.ex (φ := fun p : Nat × Nat => sfB [] [] 0 p.1 p.2 bk) 2 rfl (fun _ => sfB_st _ _ _ _ _ _) fun p => ?_
  obtain ⟨b, bd⟩ := p
  refine At.num b ?_
  refine At.alias 6 2 3 rfl (sfB_pins _ _ _ _ _ _) rfl rfl ?_
  refine rn [] rfl (by repeat' (first | exact trivial | exact rfl | refine And.intro ?_ ?_)) ?_
  refine Done.newE (ptrP bk) (ptr bk) (ptrP_st bk) rfl (fun w => rfl) ?_
  refine Done.same2 2 1 4 rfl (disk_pins _ _ _ _) rfl (ptrP_pins bk) rfl ?_
  refine Done.foldR 3 (.p 3 0) [(0, 2), (1, 1), (2, 3)] (sdO (fmtL a bb c) b bd bk) (.p 2 0) rfl (by repeat' (first | exact trivial | exact rfl | refine And.intro ?_ ?_)) (by repeat' (first | exact trivial | exact rfl | refine And.intro ?_ ?_)) rfl rfl (fun _ => rfl) ?_
  refine Done.weak 5 (φ' := sdX (fmtL a bb c)) rfl (sdX_st _) (fun v F w h => ⟨(b, bd, bk), h⟩) ?_
  refine Done.weak 4 (φ' := ptrX) rfl ptrX_st (fun v F w h => ⟨bk, h⟩) ?_
  exact retM tysOk [(0, 4), (1, 5)] rfl (by repeat' (first | exact trivial | exact rfl | refine And.intro ?_ ?_)) (by repeat' (first | exact trivial | exact rfl | refine And.intro ?_ ?_)) rfl rfl
theorem fmtL_map (hg : Gok a bb c) : rdE (fmtL a bb c).length (mapAt a bb c 0 false) = 0 ∧ rdT (fmtL a bb c) (mapAt a bb c 0 false) = mapB := by
  obtain ⟨hn, hs, h2, h132, hz, h403, hme, hmp, hie, his⟩ := fgeo hg
  have hlen := fmtL_len hg
  have hin : inS (fmtL a bb c).length (mapAt a bb c 0 false) = true := inS_iff.2 (by rw [hlen, hmp]; omega)
  refine ⟨by rw [rdE, hin, if_pos rfl], ?_⟩
  rw [rdT, hin, if_pos rfl]
  have hl3 : (f3L a bb c).length = fZ a bb c := by rw [fmtL, List.length_set, List.length_set] at hlen; exact hlen
  rw [fmtL, List.getD_eq_getElem?_getD, List.getElem?_set_ne (by rw [his, hmp]; omega), List.getElem?_set_self (by rw [hl3, hmp]; omega)]
  rfl
theorem g12 : Gok 1 2 2 := by unfold Gok; omega
theorem map12 : MapOk (1 :: List.replicate 63 0) 2 := ⟨by decide, by decide, by decide, by decide, by decide⟩
def mC : Int := mapAt 1 2 2 0 false
theorem me12 : me 1 2 2 0 = 0 := by decide
set_option maxRecDepth 100000 in
set_option maxHeartbeats 8000000 in
theorem begins_h : FnH Tryz.prog 7 [] H nx ⟨.t (.c (.b true)), [], [], []⟩ := by
  refine fnM (fn := Tryz.f7) 33 rfl rfl rfl (args' := []) (H' := []) (nx' := 0) [] (fun e w M => ⟨e, ⟨fun n b o h => (by cases h), fun n o m c q h => (by cases h)⟩, rfl⟩) rfl rfl rfl (fun e w M u hu => by cases hu) (fun u hu => by cases hu) (by simp) (v' := .t (.c (.b true))) (news' := []) rfl rfl rfl rfl rfl fun w Wh => ?_
  have hlaid := fun (H : HL) (nx : Nat) => laidA_h (H := H) (nx := nx) g12
  obtain ⟨hk, ht⟩ := fmtL_map g12
  generalize fmtL 1 2 2 = F at *
  refine rn [(10, .spec ⟨.tup [.c (.nm 1), .c (.nm 2)], [(true, .ab ptrX), (true, .ab (sdX F))], [], []⟩), (14, .spec ⟨.t (.c (.b false)), [], [], []⟩), (15, .dec false), (17, .spec ⟨.t (.c (.b false)), [], [], []⟩), (18, .dec false), (20005, .dec true)] rfl (by (repeat' (first | exact trivial | exact rfl | exact trivial | exact fun _ => trivial | first | exact hlaid _ _ | exact nilPt rfl rfl rfl rfl | exact nilSd rfl rfl rfl rfl | rfl | decide | refine And.intro ?_ ?_))) ?_
  refine At.ex (φ := fun p : Nat × Nat × Nat => sdP F p.1 p.2.1 p.2.2) 2 rfl (fun _ => absP_stable _ _) fun p => ?_
  obtain ⟨b, bd, bk⟩ := p
  refine At.unfold 2 (O := sdO F b bd bk) (x := .p 2 0) rfl rfl rfl ?_
  have hi := fun (H : HL) (nx : Nat) (h3 : lookH H 3 = some (true, .ab (sfB [] [] 0 b bd bk))) (h4 : lookH H 4 = some (true, .ab (dP F [] 0 bk))) (h5 : lookH H 5 = some (false, .pin 5 b)) (h6 : lookH H 6 = some (true, .own 3 1 1 (ivs [0]))) => fnh_al1 h3 (sfB_pins _ _ _ _ _ _) h5 (ainode_h (nx := nx) (x := 1) h3 h4 (by decide) h6 rfl g12 rfl me12 hk (by decide) ht (n := 2) rfl map12 (by decide) (by decide))
  refine rn [(22, .dec true), (23, .spec ⟨.tup [.c (iT 2), .c (iT 1), .c (iT 0)], [], [(3, some (.ab (sfB ([] ++ [tkC mC 1]) [] 0 b bd bk))), (4, some (.ab (dP F [] 0 bk)))], []⟩), (29, .dec true)] rfl (by (repeat' (first | exact trivial | exact rfl | exact trivial | exact fun _ => trivial | first | exact hi _ _ rfl rfl rfl rfl | rfl | decide | refine And.intro ?_ ?_))) ?_
  exact retM tysOk [] rfl (by repeat' (first | exact trivial | exact rfl | refine And.intro ?_ ?_)) (by repeat' (first | exact trivial | exact rfl | refine And.intro ?_ ?_)) rfl rfl
end
end Cw
namespace Cw
open Go Vc
open Go.Proofs
set_option maxRecDepth 100000
def mgC (m : Ms) : List Value := [.int .i64 m.k, .int .i64 m.f, .int .i64 m.t, .int .i64 m.r, .int .i64 m.s, .int .i64 m.e]
def mgV (m : Ms) : List CV := [iT m.k, iT m.f, iT m.t, iT m.r, iT m.s, iT m.e]
abbrev mgs (l : List Ms) : List Value := fcs mgC l
theorem ggt_app {α : Type} {k q : Int} {x : α} : ∀ {L : List (Int × α)}, gget k (L ++ [(q, x)]) = if (gget k L).isSome = true then gget k L else if q = k then some x else none
  | [] => by simp [gget]
  | (r, y) :: L => by
    show gget k ((r, y) :: (L ++ [(q, x)])) = _
    unfold gget
    split
    · simp
    · exact ggt_app
theorem ggt_gdel {α : Type} {k q : Int} : ∀ {L : List (Int × α)}, (L.map Prod.fst).Pairwise (· < ·) → gget k (gdel q L) = if k = q then none else gget k L
  | [], _ => by simp [gget, gdel]
  | (r, y) :: L, hp => by
    rw [List.map_cons, List.pairwise_cons] at hp
    unfold gdel
    by_cases hr : r = q
    · rw [if_pos hr]
      by_cases hk : k = q
      · rw [if_pos hk]
        refine gget_none fun p hp' => ?_
        have := hp.1 p.1 (List.mem_map.2 ⟨p, hp', rfl⟩)
        omega
      · rw [if_neg hk]
        show _ = gget k ((r, y) :: L)
        rw [gget, if_neg (by omega)]
    · rw [if_neg hr]
      show (if r = k then some y else gget k (gdel q L)) = if k = q then none else (if r = k then some y else gget k L)
      by_cases hk : r = k
      · rw [if_pos hk, if_pos hk, if_neg (by omega)]
      · rw [if_neg hk, if_neg hk, ggt_gdel hp.2]
/-- What was sent lies in the bag. -/
structure PK (sent : List Ms) (L : List (Int × Ms)) (last : Int) : Prop where
  la : last = (sent.length : Int)
  ln : L.length = sent.length
  bok : BOk 64 last L
  get : ∀ k (h : k < sent.length), gget ((k : Int) + 1) L = some sent[k]
  mc : ∀ p ∈ L, mcheck p.2 = 0
theorem PK.new : PK [] [] 0 := ⟨rfl, rfl, bOk_new (by decide) (by decide), fun k h => by simp at h, by simp⟩
theorem PK.add {sent : List Ms} {L : List (Int × Ms)} {last : Int} (h : PK sent L last) {m : Ms} (hm : mcheck m = 0) (hl : sent.length < 64) : PK (sent ++ [m]) (L ++ [(last + 1, m)]) (last + 1) := by
  have hb := bOk_send h.bok m
  have e1 : bsE 64 L m = 0 := by rw [bsE, if_pos hm, if_neg (by have := h.ln; omega)]
  rw [bsT, bsL, e1, if_pos rfl, if_pos rfl] at hb
  refine ⟨by rw [h.la]; simp, by simp [h.ln], hb, fun k hk => ?_, fun p hp => ?_⟩
  · rw [ggt_app]
    by_cases hlt : k < sent.length
    · rw [List.getElem_append_left hlt, h.get k hlt]
      rfl
    · have hke : k = sent.length := by simp at hk; omega
      have hn : gget ((k : Int) + 1) L = none := gget_none fun p hp => by have := (h.bok.le p hp).2; have := h.la; omega
      have h2 : (sent ++ [m])[k] = m := by rw [List.getElem_append_right (by omega)]; simp [hke]
      have h3 : last + 1 = (k : Int) + 1 := by have := h.la; omega
      rw [hn, h2, if_pos h3]
      rfl
  · rcases List.mem_append.1 hp with hp | hp
    · exact h.mc p hp
    · simp at hp; subst hp; exact hm
/-- What is still in the bag, when i were taken. -/
def stil (back : Bool) (n i k : Nat) : Prop := if back = true then k + i < n else i ≤ k
structure TK (sent : List Ms) (back : Bool) (i : Nat) (L : List (Int × Ms)) (last : Int) : Prop where
  ln : L.length + i = sent.length
  bok : BOk 64 last L
  get : ∀ k (h : k < sent.length), stil back sent.length i k → gget ((k : Int) + 1) L = some sent[k]
theorem PK.tk {sent : List Ms} {L : List (Int × Ms)} {last : Int} (h : PK sent L last) (back : Bool) : TK sent back 0 L last := ⟨h.ln, h.bok, fun k hk _ => h.get k hk⟩
/-- Which is taken next. -/
def nxt (back : Bool) (n i : Nat) : Nat := if back = true then n - 1 - i else i
theorem nxt_lt {back : Bool} {n i : Nat} (h : i < n) : nxt back n i < n := by rw [nxt]; split <;> omega
theorem TK.next {sent : List Ms} {back : Bool} {i : Nat} {L : List (Int × Ms)} {last : Int} (h : TK sent back i L last) (hi : i < sent.length) :
    gget ((nxt back sent.length i : Nat) + 1) L = some (sent[nxt back sent.length i]'(nxt_lt hi)) ∧ TK sent back (i + 1) (gdel ((nxt back sent.length i : Nat) + 1) L) last := by
  have hs : stil back sent.length i (nxt back sent.length i) := by rw [stil, nxt]; split <;> omega
  have hg := h.get _ (nxt_lt hi) hs
  have hl := gdel_length hg
  refine ⟨hg, by have := h.ln; omega, bOk_del h.bok _, fun k hk hst => ?_⟩
  have hs2 : stil back sent.length i k ∧ k ≠ nxt back sent.length i := by
    rw [stil] at *
    rw [nxt]
    split at hst <;> simp_all <;> omega
  rw [ggt_gdel h.bok.up, if_neg (by have := hs2.2; omega)]
  exact h.get k hk hs2.1
section
variable {H : HL} {nx d : Nat} {last : Int} {L : List (Int × Ms)}
end
end Cw
namespace Cw
open Go Vc
open Go.Proofs
set_option maxRecDepth 100000
end Cw
