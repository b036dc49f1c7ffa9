/- Chapter 2: First, the document's errors, the example; made and same. -/
import Derived.Test.YthcnjfhfbighkaaDoorFltE
namespace Cw
open Go Vc
open Go.Proofs
set_option maxRecDepth 100000
/-- Where the outermost step of a kind was. -/
def fstS (op : ByteArray) : List (ByteArray × Int) → Int × Bool
  | [] => (0, false)
  | x :: s => if x.1 = op then (x.2, true) else fstS op s
theorem stS_rd {s : List (ByteArray × Int)} {j : Nat} (h : j < s.length) : Vc.rowAt (stS s) ((j : Int).toNat * 2) [.s s[j].1, iT s[j].2] :=
  have g := fun (i : Nat) (u : Value) (hu : (stp s[j])[i]? = some u) => fcs_at (f := stp) (c := 2) (fun _ => rfl) h hu
  ⟨g 0 _ rfl, g 1 _ rfl, trivial⟩
theorem stS_0 {s : List (ByteArray × Int)} {j : Nat} (h : j < s.length) : (stS s)[(j : Int).toNat * 2]? = some (.string s[j].1) := (stS_rd h).1
theorem stS_1 {s : List (ByteArray × Int)} {j : Nat} (h : j < s.length) : (stS s)[(j : Int).toNat * 2 + 1]? = some (.int .i64 s[j].2) := (stS_rd h).2.1
theorem wsm {x : Int} (h0 : -1000000000000000 ≤ x) (h1 : x ≤ 1000000000000000) : IntKind.i64.wrap x = x := by rw [IntKind.wrap_i64]; omega
theorem stS_one (s : List (ByteArray × Int)) : ∀ u ∈ stS s, u.oneCell' = true := by
  intro u hu
  obtain ⟨l, hl, hu⟩ := List.mem_flatten.1 hu
  obtain ⟨a, _, rfl⟩ := List.mem_map.1 hl
  simp [stp] at hu
  rcases hu with rfl | rfl <;> rfl
def rE3 (k g r : Nat) : Nat → Nat
  | 0 => k
  | 1 => g
  | _ => r
section
variable {H : HL} {nx k g r : Nat} {bk bg br : Bool} {c : Int} {s : List (ByteArray × Int)}
set_option maxRecDepth 100000 in
set_option maxHeartbeats 4000000 in
theorem firstP (op : ByteArray) {ra : Int} {rb : Bool} (hab : fstS op s = (ra, rb)) (hk : lookH H k = some (bk, .ab (errX c s))) (hg : lookH H g = some (bg, .ab gP)) (hs : s.length ≤ 1000) : FnH Tryd.prog 8 [.c (.nm k), .c (.s op)] H nx ⟨.tup [.c (iT ra), .c (.b rb)], [], [], []⟩ := by
  refine fnR (fn := Tryd.f8) 22 rfl rfl rfl (args' := [.c (.nm 0), .c (.s op)]) (H' := [(0, some (false, .ab (errX c s))), (1, some (false, .ab gP))]) (nx' := 2) (fun e w M => ⟨e.comp (rE k g), mem_rd (rE k g) (H' := [(0, some (false, .ab (errX c s))), (1, some (false, .ab gP))]) ⟨⟨bk, hk⟩, ⟨bg, hg⟩, trivial⟩ M, rfl⟩) rfl rfl rfl rfl fun w => ?_
  refine rn [(9, .spec ⟨.t (.c (.nm 2)), [(true, .own 46 2 s.length (stS s))], [], []⟩)] rfl (by (repeat' (first | exact trivial | exact rfl | exact trivial | exact fun _ => trivial | first | exact stepsX (k := 0) (g := 1) rfl rfl (by decide) hs | rfl | decide | refine And.intro ?_ ?_))) ?_
  refine At.loop (X := (j : Nat) ×' (j ≤ s.length ∧ fstS op (s.drop j) = (ra, rb))) 3 (fun x => s.length - x.1)
    (fun x => [(1, .t (.c (.s op))), (9, .t (.c (.nm 2))), (10, .t (.c (iT (s.length : Nat)))), (11, .t (.c (iT (x.1 : Nat))))])
    (fun _ => [(2, some (true, .own 46 2 s.length (stS s)))]) ⟨0, by omega, hab⟩ [] (fun x => wf rfl rfl) (by repeat' (first | exact trivial | exact rfl | refine And.intro ?_ ?_)) (by repeat' (first | exact trivial | exact rfl | refine And.intro ?_ ?_)) rfl fun x => ?_
  obtain ⟨j, hj, hf⟩ := x
  have w3 : IntKind.i64.wrap ((j : Int) + 1) = ((j + 1 : Nat) : Int) := by rw [wsm (by omega) (by omega)]; omega
  refine rn [] rfl (by repeat' (first | exact trivial | exact rfl | refine And.intro ?_ ?_)) ?_
  refine ⟨fun h => ?_, fun h => ?_⟩
  · have hlt : j < s.length := by have : (j : Int) < (s.length : Int) := of_decide_eq_true h; omega
    clear h
    have r1 := stS_rd hlt
    have b0 : (0 : Int) ≤ (j : Int) := by omega
    have b1 : (j : Int) < (s.length : Int) := by omega
    have hd : s.drop j = s[j] :: s.drop (j + 1) := List.drop_eq_getElem_cons hlt
    have hf2 := hf
    rw [hd, fstS] at hf2
    by_cases he : s[j].1 = op
    · have g1 : (s[j].1.toList == op.toList) = true := by rw [bt_iff]; exact decide_eq_true he
      rw [if_pos he] at hf2
      have e1 : s[j].2 = ra := congrArg Prod.fst hf2
      have e2 : true = rb := congrArg Prod.snd hf2
      refine rn [(14, .ld [.s s[j].1, iT s[j].2]), (18, .dec true)] rfl (by (repeat' (first | exact trivial | exact rfl | exact trivial | exact fun _ => trivial | first | exact r1 | exact b0 | exact b1 | exact ⟨b0, b1⟩ | exact g1 | rfl | decide | refine And.intro ?_ ?_))) ?_
      exact ret0 tysOk rfl (by (repeat' (first | exact trivial | exact rfl | exact trivial | exact fun _ => trivial | first | exact e1 | exact e2 | refine And.intro ?_ ?_))) rfl
    · have g1 : (s[j].1.toList == op.toList) = false := by rw [bt_iff]; exact decide_eq_false he
      rw [if_neg he] at hf2
      refine rn [(14, .ld [.s s[j].1, iT s[j].2]), (18, .dec false)] rfl (by (repeat' (first | exact trivial | exact rfl | exact trivial | exact fun _ => trivial | first | exact r1 | exact b0 | exact b1 | exact ⟨b0, b1⟩ | exact g1 | rfl | decide | refine And.intro ?_ ?_))) ?_
      exact roundEnd ⟨j + 1, by omega, hf2⟩ [] (by show s.length - (j + 1) < s.length - j; omega) (by (repeat' (first | exact trivial | exact rfl | exact w3 | exact fun _ => w3 | refine And.intro ?_ ?_))) (by repeat' (first | exact trivial | exact rfl | refine And.intro ?_ ?_)) rfl
  · have hje : j = s.length := by have : ¬ (j : Int) < (s.length : Int) := of_decide_eq_false h; omega
    have hd : s.drop j = [] := by rw [hje]; simp
    have hf2 := hf
    rw [hd] at hf2
    have e1 : 0 = ra := congrArg Prod.fst hf2
    have e2 : false = rb := congrArg Prod.snd hf2
    refine rn [] rfl (by repeat' (first | exact trivial | exact rfl | refine And.intro ?_ ?_)) (roundExit rfl ?_)
    refine rnA [] rfl (by repeat' (first | exact trivial | exact rfl | refine And.intro ?_ ?_)) ?_
    exact ret0 tysOk rfl (by (repeat' (first | exact trivial | exact rfl | exact trivial | exact fun _ => trivial | first | exact e1 | exact e2 | refine And.intro ?_ ?_))) rfl
theorem firstX (op : ByteArray) (hk : lookH H k = some (bk, .ab (errX c s))) (hg : lookH H g = some (bg, .ab gP)) (hs : s.length ≤ 1000) : FnH Tryd.prog 8 [.c (.nm k), .c (.s op)] H nx ⟨.tup [.c (iT (fstS op s).1), .c (.b (fstS op s).2)], [], [], []⟩ := firstP op rfl hk hg hs
theorem rof0 : Fn0 Tryd.prog 17 [.c (iT c)] (.t (.agg [.b (decide (c = 0)), iT c, .nsl])) := by
  refine fn0 (fn := Tryd.f17) 7 rfl rfl rfl rfl rfl fun w => ?_
  refine rn [] rfl (by repeat' (first | exact trivial | exact rfl | refine And.intro ?_ ?_)) ?_
  exact ret0 tysOk rfl (by repeat' (first | exact trivial | exact rfl | refine And.intro ?_ ?_)) rfl
theorem rwrap0 (op : ByteArray) (at' : Int) {A : Option Addr} {n cap : Nat} {z : Bool} (h : z = true ∨ 16 ≤ n) : Fn0 Tryd.prog 18 [.c (.s op), .c (iT at'), .agg [.b z, iT c, .raw (.slice A n cap)]] (.t (.agg [.b z, iT c, .raw (.slice A n cap)])) := by
  refine fn0 (fn := Tryd.f18) 26 rfl rfl rfl rfl rfl fun w => ?_
  cases z with
  | true =>
    refine rn [(9, .dec true), (14, .dec true)] rfl (by repeat' (first | exact trivial | exact rfl | refine And.intro ?_ ?_)) ?_
    exact ret0 tysOk rfl (by repeat' (first | exact trivial | exact rfl | refine And.intro ?_ ?_)) rfl
  | false =>
    have hn : 16 ≤ n := h.resolve_left (by decide)
    have g1 : decide ((16 : Int) ≤ (n : Int)) = true := by simp; omega
    refine rn [(9, .dec false), (14, .dec true)] rfl (by (repeat' (first | exact trivial | exact rfl | exact trivial | exact fun _ => trivial | first | exact g1 | rfl | decide | refine And.intro ?_ ?_))) ?_
    exact ret0 tysOk rfl (by repeat' (first | exact trivial | exact rfl | refine And.intro ?_ ?_)) rfl
theorem rwrapSame (op : ByteArray) (at' : Int) {z : Bool} {T : TypeId} {n : Nat} {xs : List Value} (hr : lookH H r = some (br, .own T 2 n xs)) (h : z = true ∨ 16 ≤ n) :
    FnH Tryd.prog 18 [.c (.s op), .c (iT at'), .agg [.b z, iT c, .nm r]] H nx ⟨.t (.agg [.b z, iT c, .nm r]), [], [], []⟩ := by
  refine ⟨fun _ _ e w M => ?_⟩
  obtain ⟨A, cap, h1, _⟩ := SlR.own hr e w M
  have h2 : e.val r = .slice A n cap := h1
  have := (rwrap0 (c := c) op at' (A := A) (n := n) (cap := cap) h).h w
  rw [show ([.c (.s op), .c (iT at'), .agg [.b z, iT c, .raw (.slice A n cap)]] : List TV).map (TV.den e0) = ([.c (.s op), .c (iT at'), .agg [.b z, iT c, .nm r]] : List TV).map (TV.den e) by simp [TV.den, CV.den, h2]] at this
  refine Calls.mono this ?_
  rintro en w' ⟨rfl, hb⟩
  exact ⟨e, by simp [SV.den, TV.den, CV.den, h2], Mv.of_below hb⟩
set_option maxRecDepth 100000 in
set_option maxHeartbeats 4000000 in
theorem rwrapAdd (op : ByteArray) (at' : Int) (hr : lookH H r = some (br, .own 50 2 s.length (stS s))) (h : s.length < 16) :
    FnH Tryd.prog 18 [.c (.s op), .c (iT at'), .agg [.b false, iT c, .nm r]] H nx ⟨.t (.agg [.b false, iT c, .nm nx]), [(true, .own 50 2 (s.length + 1) (stS ((op, at') :: s)))], [], []⟩ := by
  refine fnN (fn := Tryd.f18) 26 rfl rfl rfl (args' := [.c (.s op), .c (iT at'), .agg [.b false, iT c, .nm 0]]) (H' := [(0, some (false, .own 50 2 s.length (stS s)))]) (nx' := 1) (fun e w M => ⟨e.comp fun _ => r, mem_rd (fun _ => r) (H' := [(0, some (false, .own 50 2 s.length (stS s)))]) ⟨⟨br, hr⟩, trivial⟩ M, rfl⟩) rfl rfl rfl (inR_one nx) rfl fun w => ?_
  have g1 : decide ((16 : Int) ≤ (s.length : Int)) = false := by simp; omega
  have m1 : 1 + s.length ≤ maxLen := by simp [maxLen]; omega
  have m2 : (1 + s.length) * 24 ≤ 140737488355328 := by omega
  refine rn [(9, .dec false), (14, .dec false), (21, .dec true)] rfl (by (repeat' (first | exact trivial | exact rfl | exact trivial | exact fun _ => trivial | first | exact g1 | exact m1 | exact m2 | exact stS_one s | rfl | decide | refine And.intro ?_ ?_))) ?_
  have s1 : stS ((op, at') :: s) = [Value.string op, .int .i64 at'] ++ stS s := rfl
  exact retN tysOk [(nx, 4)] rfl (by simp only [retS, SV.eqs, eqsT, TV.eqs, eqsC, CV.eqs, ren_one]; repeat' (first | exact trivial | exact rfl | refine And.intro ?_ ?_)) (by simp only [newsH, subH, ren_one]; (repeat' (first | exact trivial | exact rfl | exact trivial | exact fun _ => trivial | first | exact Nat.add_comm _ _ | rfl | refine And.intro ?_ ?_))) (by simp [injK, keysH, newsH, inL]) rfl
/-- Wrapped as the document has it. -/
theorem rwrapX (op : ByteArray) (at' : Int) (hr : lookH H r = some (br, .own 50 2 s.length (stS s))) (h : ¬ (c = 0 ∨ 16 ≤ s.length)) :
    FnH Tryd.prog 18 [.c (.s op), .c (iT at'), .agg [.b (decide (c = 0)), iT c, .nm r]] H nx ⟨.t (.agg [.b (decide (c = 0)), iT c, .nm nx]), [(true, .own 50 2 (s.length + 1) (stS ((op, at') :: s)))], [], []⟩ := by
  have hc : c ≠ 0 := fun e => h (.inl e)
  rw [decide_eq_false hc]
  exact rwrapAdd op at' hr (by omega)
theorem rwrapY (op : ByteArray) (at' : Int) (hr : lookH H r = some (br, .own 50 2 s.length (stS s))) (h : c = 0 ∨ 16 ≤ s.length) :
    FnH Tryd.prog 18 [.c (.s op), .c (iT at'), .agg [.b (decide (c = 0)), iT c, .nm r]] H nx ⟨.t (.agg [.b (decide (c = 0)), iT c, .nm r]), [], [], []⟩ :=
  rwrapSame op at' hr (h.imp (fun e => decide_eq_true e) id)
set_option maxRecDepth 100000 in
set_option maxHeartbeats 4000000 in
theorem rfirstP (op : ByteArray) {z : Bool} {ra : Int} {rb : Bool} (hab : fstS op s = (ra, rb)) (hr : lookH H r = some (br, .own 50 2 s.length (stS s))) (hs : s.length ≤ 1000) : FnH Tryd.prog 9 [.agg [.b z, iT c, .nm r], .c (.s op)] H nx ⟨.tup [.c (iT ra), .c (.b rb)], [], [], []⟩ := by
  refine fnR (fn := Tryd.f9) 28 rfl rfl rfl (args' := [.agg [.b z, iT c, .nm 0], .c (.s op)]) (H' := [(0, some (false, .own 50 2 s.length (stS s)))]) (nx' := 1) (fun e w M => ⟨e.comp fun _ => r, mem_rd (fun _ => r) (H' := [(0, some (false, .own 50 2 s.length (stS s)))]) ⟨⟨br, hr⟩, trivial⟩ M, rfl⟩) rfl rfl rfl rfl fun w => ?_
  refine rn [] rfl (by repeat' (first | exact trivial | exact rfl | refine And.intro ?_ ?_)) ?_
  refine At.loop (X := (j : Nat) ×' (j ≤ s.length ∧ fstS op (s.drop j) = (ra, rb))) 2 (fun x => s.length - x.1)
    (fun x => [(1, .t (.c (.s op))), (2, .t (.c (.p 1 0))), (6, .t (.c (iT (x.1 : Nat))))])
    (fun _ => [(0, some (false, .own 50 2 s.length (stS s))), (1, some (true, .cells [.b z, iT c, .nm 0] 28))]) ⟨0, by omega, hab⟩ [] (fun x => wf rfl rfl) (by repeat' (first | exact trivial | exact rfl | refine And.intro ?_ ?_)) (by repeat' (first | exact trivial | exact rfl | refine And.intro ?_ ?_)) rfl fun x => ?_
  obtain ⟨j, hj, hf⟩ := x
  have w3 : IntKind.i64.wrap ((j : Int) + 1) = ((j + 1 : Nat) : Int) := by rw [wsm (by omega) (by omega)]; omega
  refine rn [] rfl (by repeat' (first | exact trivial | exact rfl | refine And.intro ?_ ?_)) ?_
  refine ⟨fun h => ?_, fun h => ?_⟩
  · have hlt : j < s.length := by have : (j : Int) < (s.length : Int) := of_decide_eq_true h; omega
    clear h
    have r0 := stS_0 hlt
    have r1 := stS_1 hlt
    have b2 : (j : Int).toNat * 2 < (stS s).length := by rw [stS_len]; omega
    have b0 : (0 : Int) ≤ (j : Int) := by omega
    have b1 : (j : Int) < (s.length : Int) := by omega
    have hd : s.drop j = s[j] :: s.drop (j + 1) := List.drop_eq_getElem_cons hlt
    have hf2 := hf
    rw [hd, fstS] at hf2
    by_cases he : s[j].1 = op
    · have g1 : (s[j].1.toList == op.toList) = true := by rw [bt_iff]; exact decide_eq_true he
      rw [if_pos he] at hf2
      have e1 : s[j].2 = ra := congrArg Prod.fst hf2
      have e2 : true = rb := congrArg Prod.snd hf2
      refine rn [(19, .ld [.s s[j].1]), (21, .dec true), (27, .ld [iT s[j].2])] rfl (by (repeat' (first | exact trivial | exact rfl | exact trivial | exact fun _ => trivial | first | exact r0 | exact r1 | exact ⟨r0, trivial⟩ | exact ⟨r1, trivial⟩ | exact b0 | exact b1 | exact b2 | exact ⟨b0, b1⟩ | exact g1 | rfl | decide | refine And.intro ?_ ?_))) ?_
      exact ret0 tysOk rfl (by (repeat' (first | exact trivial | exact rfl | exact trivial | exact fun _ => trivial | first | exact e1 | exact e2 | refine And.intro ?_ ?_))) rfl
    · have g1 : (s[j].1.toList == op.toList) = false := by rw [bt_iff]; exact decide_eq_false he
      rw [if_neg he] at hf2
      refine rn [(19, .ld [.s s[j].1]), (21, .dec false)] rfl (by (repeat' (first | exact trivial | exact rfl | exact trivial | exact fun _ => trivial | first | exact r0 | exact ⟨r0, trivial⟩ | exact b0 | exact b1 | exact b2 | exact ⟨b0, b1⟩ | exact g1 | rfl | decide | refine And.intro ?_ ?_))) ?_
      exact roundEnd ⟨j + 1, by omega, hf2⟩ [] (by show s.length - (j + 1) < s.length - j; omega) (by (repeat' (first | exact trivial | exact rfl | exact w3 | exact fun _ => w3 | refine And.intro ?_ ?_))) (by repeat' (first | exact trivial | exact rfl | refine And.intro ?_ ?_)) rfl
  · have hje : j = s.length := by have : ¬ (j : Int) < (s.length : Int) := of_decide_eq_false h; omega
    have hd : s.drop j = [] := by rw [hje]; simp
    have hf2 := hf
    rw [hd] at hf2
    have e1 : 0 = ra := congrArg Prod.fst hf2
    have e2 : false = rb := congrArg Prod.snd hf2
    refine rn [] rfl (by repeat' (first | exact trivial | exact rfl | refine And.intro ?_ ?_)) (roundExit rfl ?_)
    refine rnA [] rfl (by repeat' (first | exact trivial | exact rfl | refine And.intro ?_ ?_)) ?_
    exact ret0 tysOk rfl (by (repeat' (first | exact trivial | exact rfl | exact trivial | exact fun _ => trivial | first | exact e1 | exact e2 | refine And.intro ?_ ?_))) rfl
def opn : ByteArray := ⟨#[111, 112, 101, 110]⟩
set_option maxRecDepth 100000 in
set_option maxHeartbeats 4000000 in
/-- The chapter's example. -/
theorem fworks_h (hg : lookH H g = some (bg, .ab gP)) : FnH Tryd.prog 11 [] H nx ⟨.t (.c (.b true)), [], [], []⟩ := by
  refine fnR (fn := Tryd.f11) 26 rfl rfl rfl (args' := []) (H' := [(0, some (false, .ab gP))]) (nx' := 1) (fun e w M => ⟨e.comp fun _ => g, mem_rd (fun _ => g) (H' := [(0, some (false, .ab gP))]) ⟨⟨bg, hg⟩, trivial⟩ M, rfl⟩) rfl rfl rfl rfl fun w => ?_
  have hw := fun (H : HL) (nx : Nat) (h1 : lookH H 1 = some (true, .ab (errX 5 []))) (h0 : lookH H 0 = some (false, .ab gP)) => wrapX (nx := nx) opn 3 h1 h0 (by decide) (by decide)
  rw [show nxtS 5 [] (opn, 3) = [(opn, 3)] from if_neg (by decide)] at hw
  have hs := fun (H : HL) (nx : Nat) (h1 : lookH H 2 = some (true, .ab (errX 5 [(opn, 3)]))) (h0 : lookH H 0 = some (false, .ab gP)) => stepsX (nx := nx) h1 h0 (by decide) (by decide)
  have hc := fun (H : HL) (nx : Nat) (h1 : lookH H 2 = some (true, .ab (errX 5 [(opn, 3)]))) (h0 : lookH H 0 = some (false, .ab gP)) => codeX (nx := nx) h1 h0 (by decide)
  have ho := fun (H : HL) (nx : Nat) => ofX (H := H) (nx := nx) (c := 5)
  have hz := fun (H : HL) (nx : Nat) => ofX (H := H) (nx := nx) (c := 0)
  have r1 := stS_rd (s := [(opn, 3)]) (j := 0) (by decide)
  refine rn [(3, .spec ⟨.t (.c (.nm 1)), [(true, .ab (errX 5 []))], [], []⟩), (4, .spec ⟨.t (.c (.nm 2)), [(true, .ab (errX 5 [(opn, 3)]))], [(1, none)], []⟩), (6, .spec ⟨.t (.c (.nm 3)), [(true, .own 46 2 1 (stS [(opn, 3)]))], [], []⟩),
    (8, .spec ⟨.t (.c (iT 5)), [], [], []⟩), (10, .dec true), (15, .dec true), (18, .ld [.s opn, iT 3]), (22, .dec true), (23, .spec ⟨.t (.c (.nm 4)), [(true, .ab (errX 0 []))], [], []⟩), (24, .spec ⟨.t (.c (.b true)), [], [], []⟩)] rfl
    (by (repeat' (first | exact trivial | exact rfl | exact trivial | exact fun _ => trivial | first | exact hw _ _ rfl rfl | exact hs _ _ rfl rfl | exact hc _ _ rfl rfl | exact ho _ _ | exact hz _ _ | exact spec_en (r := true) (by decide) rfl (at_nm rfl rfl) | exact r1 | rfl | decide | refine And.intro ?_ ?_))) ?_
  exact ret0 tysOk rfl (by repeat' (first | exact trivial | exact rfl | refine And.intro ?_ ?_)) rfl
end
def splt : ByteArray := ⟨#[115, 112, 111, 105, 108, 116]⟩
/-- The first ones spoilt. -/
def spS (s : List (ByteArray × Int)) (j : Nat) : List (ByteArray × Int) := (s.take j).map (fun _ => (splt, 0)) ++ s.drop j
theorem spS_len (s : List (ByteArray × Int)) (j : Nat) : (spS s j).length = s.length := by simp [spS]; omega
theorem spS_at {s : List (ByteArray × Int)} {j : Nat} (h : j < s.length) : (spS s j)[j]'(by rw [spS_len]; exact h) = s[j] := by
  simp only [spS]
  rw [List.getElem_append_right (by simp; omega)]
  simp [Nat.min_eq_left (Nat.le_of_lt h)]
theorem stS_app (a b : List (ByteArray × Int)) : stS (a ++ b) = stS a ++ stS b := by simp [stS, fcs]
theorem setAt_mid {A B C vs : List Value} {n : Nat} (hA : A.length = n) (hB : B.length = vs.length) : Vc.setAt (A ++ (B ++ C)) n vs = A ++ (vs ++ C) := by
  rw [Vc.setAt, List.take_left' hA, ← List.append_assoc A B C, List.drop_left' (by rw [List.length_append, hA, hB]), List.append_assoc]
theorem spS_next {s : List (ByteArray × Int)} {j : Nat} (h : j < s.length) : Vc.setAt (stS (spS s j)) ((j : Int).toNat * 2) [Value.string splt, .int .i64 0] = stS (spS s (j + 1)) := by
  have hl : ((s.take j).map (fun _ : ByteArray × Int => (splt, (0 : Int)))).length = j := by simp; omega
  have e1 : stS (spS s j) = stS ((s.take j).map (fun _ => (splt, 0))) ++ (stp s[j] ++ stS (s.drop (j + 1))) := by
    rw [spS, List.drop_eq_getElem_cons h, stS_app]
    rfl
  have e2 : stS (spS s (j + 1)) = stS ((s.take j).map (fun _ => (splt, 0))) ++ ([Value.string splt, .int .i64 0] ++ stS (s.drop (j + 1))) := by
    rw [spS, List.take_succ_eq_append_getElem h, List.map_append, List.append_assoc, stS_app]
    rfl
  rw [e1, e2]
  exact setAt_mid (by rw [stS_len, hl, Int.toNat_natCast]) rfl
section
variable {H : HL} {nx k g r : Nat} {bk bg br : Bool} {c : Int} {s : List (ByteArray × Int)}
set_option maxRecDepth 100000 in
set_option maxHeartbeats 8000000 in
/-- An error tells what the document's tells. -/
theorem same02 (hk : lookH H k = some (bk, .ab (errX c s))) (hg : lookH H g = some (bg, .ab gP)) (hr : lookH H r = some (br, .own 50 2 s.length (stS s))) (hs : s.length ≤ 1000) :
    FnH Tryd.prog 10 [.c (.nm k), .agg [.b (decide (c = 0)), iT c, .nm r]] H nx ⟨.t (.c (.b true)), [], [], []⟩ := by
  refine fnR (fn := Tryd.f10) 63 rfl rfl rfl (args' := [.c (.nm 0), .agg [.b (decide (c = 0)), iT c, .nm 2]]) (H' := [(0, some (false, .ab (errX c s))), (1, some (false, .ab gP)), (2, some (false, .own 50 2 s.length (stS s)))]) (nx' := 3) (fun e w M => ⟨e.comp (rE3 k g r), mem_rd (rE3 k g r) (H' := [(0, some (false, .ab (errX c s))), (1, some (false, .ab gP)), (2, some (false, .own 50 2 s.length (stS s)))]) ⟨⟨bk, hk⟩, ⟨bg, hg⟩, ⟨br, hr⟩, trivial⟩ M, rfl⟩) rfl rfl rfl rfl fun w => ?_
  have hcd := fun (H : HL) (nx : Nat) (h0 : lookH H 0 = some (false, .ab (errX c s))) (h1 : lookH H 1 = some (false, .ab gP)) => codeX (nx := nx) h0 h1 (by decide)
  have hst := fun (H : HL) (nx : Nat) (h0 : lookH H 0 = some (false, .ab (errX c s))) (h1 : lookH H 1 = some (false, .ab gP)) => stepsX (nx := nx) h0 h1 (by decide) hs
  have g2 : (c != c) = false := by simp
  have g3 : ((s.length : Int) != (s.length : Int)) = false := by simp
  obtain ⟨z, hz⟩ : ∃ z, decide (c = 0) = z := ⟨_, rfl⟩
  rw [hz]
  have g1 : polB false (z == z) = false := by cases z <;> rfl
  refine rn [(8, .spec ⟨.t (.c (.b z)), [], [], []⟩), (12, .dec false), (14, .spec ⟨.t (.c (iT c)), [], [], []⟩), (30014, .dec true), (18, .dec false), (20, .spec ⟨.t (.c (.nm 4)), [(true, .own 46 2 s.length (stS s))], [], []⟩), (26, .dec false)] rfl
    (by (repeat' (first | exact trivial | exact rfl | exact trivial | exact fun _ => trivial | first | exact spec_en hz rfl (at_nm rfl rfl) | exact hcd _ _ rfl rfl | exact hst _ _ rfl rfl | exact g1 | exact g2 | exact g3 | rfl | decide | refine And.intro ?_ ?_))) ?_
  refine At.loop (X := (j : Nat) ×' (j ≤ s.length)) 5 (fun x => s.length - x.1)
    (fun x => [(3, .t (.c (.p 3 0))), (5, .t (.c (.nm 4))), (6, .t (.c (iT (x.1 : Nat))))])
    (fun x => [(2, some (false, .own 50 2 s.length (stS s))), (3, some (true, .cells [.b z, iT c, .nm 2] 28)), (4, some (true, .own 46 2 s.length (stS (spS s x.1))))]) ⟨0, by omega⟩ [] (fun x => wf rfl rfl) (by repeat' (first | exact trivial | exact rfl | refine And.intro ?_ ?_)) (by repeat' (first | exact trivial | exact rfl | refine And.intro ?_ ?_)) rfl fun x => ?_
  obtain ⟨j, hj⟩ := x
  have w3 : IntKind.i64.wrap ((j : Int) + 1) = ((j + 1 : Nat) : Int) := by rw [wsm (by omega) (by omega)]; omega
  refine rn [] rfl (by repeat' (first | exact trivial | exact rfl | refine And.intro ?_ ?_)) ?_
  refine ⟨fun h => ?_, fun h => ?_⟩
  · have hlt : j < s.length := by have : (j : Int) < (s.length : Int) := of_decide_eq_true h; omega
    clear h
    have hl2 : j < (spS s j).length := by rw [spS_len]; exact hlt
    have r0 := stS_0 hlt
    have r1 := stS_1 hlt
    have q0 := stS_0 hl2
    have q1 := stS_1 hl2
    rw [spS_at hlt] at q0 q1
    have b0 : (0 : Int) ≤ (j : Int) := by omega
    have b1 : (j : Int) < (s.length : Int) := by omega
    have b2 : (j : Int).toNat * 2 < (stS s).length := by rw [stS_len]; omega
    have b3 : (j : Int).toNat * 2 < (stS (spS s j)).length := by rw [stS_len, spS_len]; omega
    have b4 : (j : Int).toNat * 2 + 2 ≤ (stS (spS s j)).length := by rw [stS_len, spS_len]; omega
    have v1 : (!(s[j].1.toList == s[j].1.toList)) = false := by simp
    have v2 : (s[j].2 != s[j].2) = false := by simp
    refine rn [(37, .ld [.s s[j].1]), (43, .ld [.s s[j].1]), (45, .dec false), (50, .ld [iT s[j].2]), (56, .ld [iT s[j].2]), (58, .dec false)] rfl
      (by (repeat' (first | exact trivial | exact rfl | exact trivial | exact fun _ => trivial | first | exact r0 | exact r1 | exact q0 | exact q1 | exact ⟨r0, trivial⟩ | exact ⟨r1, trivial⟩ | exact ⟨q0, trivial⟩ | exact ⟨q1, trivial⟩ | exact b0 | exact b1 | exact b2 | exact b3 | exact b4 | exact v1 | exact v2 | rfl | decide | refine And.intro ?_ ?_))) ?_
    exact roundEnd ⟨j + 1, by omega⟩ [] (by show s.length - (j + 1) < s.length - j; omega) (by (repeat' (first | exact trivial | exact rfl | exact w3 | exact fun _ => w3 | refine And.intro ?_ ?_))) (by (repeat' (first | exact trivial | exact rfl | exact trivial | exact fun _ => trivial | exact spS_next hlt | refine And.intro ?_ ?_))) rfl
  · refine rn [] rfl (by repeat' (first | exact trivial | exact rfl | refine And.intro ?_ ?_)) (roundExit rfl ?_)
    refine rnA [] rfl (by repeat' (first | exact trivial | exact rfl | refine And.intro ?_ ?_)) ?_
    exact ret0 tysOk rfl (by repeat' (first | exact trivial | exact rfl | refine And.intro ?_ ?_)) rfl
/-- The steps that are left of a list of wraps. -/
def mkS (c : Int) (l : List (ByteArray × Int)) : List (ByteArray × Int) := l.foldl (nxtS c) []
theorem mkS_len (c : Int) (l : List (ByteArray × Int)) : (mkS c l).length ≤ l.length := by
  have : ∀ (l s : List (ByteArray × Int)), (l.foldl (nxtS c) s).length ≤ s.length + l.length := by
    intro l
    induction l with
    | nil => intro s; simp
    | cons x l ih =>
      intro s
      have h1 := ih (nxtS c s x)
      have h2 : (nxtS c s x).length ≤ s.length + 1 := by
        unfold nxtS
        split <;> simp
      simp only [List.foldl_cons, List.length_cons]
      omega
  simpa [mkS] using this l []
theorem mkS_succ (c : Int) {l : List (ByteArray × Int)} {i : Nat} (h : i < l.length) : mkS c (l.take (i + 1)) = nxtS c (mkS c (l.take i)) l[i] := by
  rw [List.take_succ_eq_append_getElem h, mkS, List.foldl_append]
  rfl
theorem inR_two (n : Nat) : inR n (n + 2) [n, n + 1] = true := by
  have h1 : Nat.ble n n = true := by simp
  have h2 : Nat.blt n (n + 2) = true := by simp [Nat.blt_eq]
  have h3 : Nat.ble n (n + 1) = true := by simp
  have h4 : Nat.blt (n + 1) (n + 2) = true := by simp [Nat.blt_eq]
  simp only [inR, h1, h2, h3, h4]
set_option maxRecDepth 100000 in
set_option maxHeartbeats 8000000 in
theorem made02 {wl : Nat} {bw : Bool} (l : List (ByteArray × Int)) (zl : l.length ≤ 100000000000000) (hw : lookH H wl = some (bw, .rd 2 l.length (stS l))) (hg : lookH H g = some (bg, .ab gP)) :
    FnH Tryd.prog 7 [.c (iT c), .c (.nm wl)] H nx ⟨.tup [.c (.nm nx), .agg [.b (decide (c = 0)), iT c, .nm (nx + 1)]], [(true, .ab (errX c (mkS c (l.take 20)))), (true, .own 50 2 (mkS c (l.take 20)).length (stS (mkS c (l.take 20))))], [], []⟩ := by
  refine fnN (fn := Tryd.f7) 49 rfl rfl rfl (args' := [.c (iT c), .c (.nm 0)]) (H' := [(0, some (false, .rd 2 l.length (stS l))), (1, some (false, .ab gP))]) (nx' := 2) (fun e w M => ⟨e.comp (rE wl g), mem_rd (rE wl g) (H' := [(0, some (false, .rd 2 l.length (stS l))), (1, some (false, .ab gP))]) ⟨⟨bw, hw⟩, ⟨bg, hg⟩, trivial⟩ M, rfl⟩) rfl rfl rfl (inR_two nx) (by simp [newsR, inR, Ob.ns]) fun w => ?_
  refine rn [(10, .spec ⟨.t (.c (.nm 3)), [(true, .ab (errX c []))], [], []⟩), (12, .ret (.t (.agg [.b (decide (c = 0)), iT c, .nsl])))] rfl (by (repeat' (first | exact trivial | exact rfl | exact trivial | exact fun _ => trivial | first | exact ofX | exact rof0 | rfl | decide | refine And.intro ?_ ?_))) ?_
  refine At.nilCell 4 2 50 2 rfl rfl rfl ?_
  refine At.loop (X := (i : Nat) ×' (s : List (ByteArray × Int)) ×' (i ≤ l.length ∧ i ≤ 20 ∧ s = mkS c (l.take i))) 6 (fun x => l.length - x.1)
    (fun x => [(0, .t (.c (iT c))), (1, .t (.c (.nm 0))), (5, .t (.c (.p 2 0))), (6, .t (.c (.nm 3))), (7, .t (.c (.p 4 0))), (8, .t (.c (iT (x.1 : Nat))))])
    (fun x => [(0, some (false, .rd 2 l.length (stS l))), (1, some (false, .ab gP)), (2, some (true, .cells [.b false, iT 0, .nsl] 28)), (3, some (true, .ab (errX c x.2.1))), (4, some (true, .cells [.b (decide (c = 0)), iT c, .nm 5] 28)), (5, some (true, .own 50 2 x.2.1.length (stS x.2.1)))])
    ⟨0, [], by omega, by omega, rfl⟩ [] (fun x => wf rfl rfl) (by repeat' (first | exact trivial | exact rfl | refine And.intro ?_ ?_)) (by repeat' (first | exact trivial | exact rfl | refine And.intro ?_ ?_)) rfl fun x => ?_
  obtain ⟨i, s, hi1, hi2, hse⟩ := x
  have hsl : s.length ≤ 20 := by
    rw [hse]
    have := mkS_len c (l.take i)
    rw [List.length_take] at this
    omega
  have w3 : IntKind.i64.wrap ((i : Int) + 1) = ((i + 1 : Nat) : Int) := by rw [wsm (by omega) (by omega)]; omega
  refine rn [] rfl (by repeat' (first | exact trivial | exact rfl | refine And.intro ?_ ?_)) ?_
  refine ⟨fun h => ?_, fun h => ?_⟩
  · have hlt : i < l.length := by have : (i : Int) < (l.length : Int) := of_decide_eq_true (Bool.and_eq_true_iff.1 h).1; omega
    have h20 : i < 20 := by have : (i : Int) < 20 := of_decide_eq_true (Bool.and_eq_true_iff.1 h).2; omega
    clear h
    have r0 := stS_0 hlt
    have r1 := stS_1 hlt
    have b0 : (0 : Int) ≤ (i : Int) := by omega
    have b1 : (i : Int) < (l.length : Int) := by omega
    have b2 : (i : Int).toNat * 2 < (stS l).length := by rw [stS_len]; omega
    have hw := fun (H : HL) (nx : Nat) (h3 : lookH H 3 = some (true, .ab (errX c s))) (h1 : lookH H 1 = some (false, .ab gP)) => wrapX (nx := nx) l[i].1 l[i].2 h3 h1 (by decide) (by omega)
    have hms := mkS_succ c hlt
    rw [← hse] at hms
    by_cases hy : c = 0 ∨ 16 ≤ s.length
    · rw [show nxtS c s (l[i].1, l[i].2) = s from if_pos hy] at hw
      rw [show nxtS c s l[i] = s from if_pos hy] at hms
      have hr := fun (H : HL) (nx : Nat) (h5 : lookH H 5 = some (true, .own 50 2 s.length (stS s))) => rwrapY (nx := nx) (c := c) l[i].1 l[i].2 h5 hy
      refine rn [(27, .ld [.s l[i].1]), (32, .ld [iT l[i].2]), (30034, .dec true), (34, .spec ⟨.t (.c (.nm 6)), [(true, .ab (errX c s))], [(3, none)], []⟩), (39, .ld [.s l[i].1]), (44, .ld [iT l[i].2]), (46, .spec ⟨.t (.agg [.b (decide (c = 0)), iT c, .nm 5]), [], [], []⟩)] rfl
        (by (repeat' (first | exact trivial | exact rfl | exact trivial | exact fun _ => trivial | first | exact r0 | exact r1 | exact ⟨r0, trivial⟩ | exact ⟨r1, trivial⟩ | exact b0 | exact b1 | exact b2 | exact hw _ _ rfl rfl | exact hr _ _ rfl | rfl | decide | refine And.intro ?_ ?_))) ?_
      exact roundEnd ⟨i + 1, s, by omega, by omega, hms.symm⟩ [(3, 6)] (by show l.length - (i + 1) < l.length - i; omega) (by (repeat' (first | exact trivial | exact rfl | exact w3 | exact fun _ => w3 | refine And.intro ?_ ?_))) (by repeat' (first | exact trivial | exact rfl | refine And.intro ?_ ?_)) rfl
    · have hn : nxtS c s (l[i].1, l[i].2) = (l[i].1, l[i].2) :: s := if_neg hy
      rw [hn] at hw
      rw [show nxtS c s l[i] = (l[i].1, l[i].2) :: s from if_neg hy] at hms
      have hr := fun (H : HL) (nx : Nat) (h5 : lookH H 5 = some (true, .own 50 2 s.length (stS s))) => rwrapX (nx := nx) (c := c) l[i].1 l[i].2 h5 hy
      refine rn [(27, .ld [.s l[i].1]), (32, .ld [iT l[i].2]), (30034, .dec true), (34, .spec ⟨.t (.c (.nm 6)), [(true, .ab (errX c ((l[i].1, l[i].2) :: s)))], [(3, none)], []⟩), (39, .ld [.s l[i].1]), (44, .ld [iT l[i].2]), (46, .spec ⟨.t (.agg [.b (decide (c = 0)), iT c, .nm 7]), [(true, .own 50 2 (s.length + 1) (stS ((l[i].1, l[i].2) :: s)))], [], []⟩)] rfl
        (by (repeat' (first | exact trivial | exact rfl | exact trivial | exact fun _ => trivial | first | exact r0 | exact r1 | exact ⟨r0, trivial⟩ | exact ⟨r1, trivial⟩ | exact b0 | exact b1 | exact b2 | exact hw _ _ rfl rfl | exact hr _ _ rfl | rfl | decide | refine And.intro ?_ ?_))) ?_
      exact roundEnd ⟨i + 1, (l[i].1, l[i].2) :: s, by omega, by omega, hms.symm⟩ [(3, 6), (5, 7)] (by show l.length - (i + 1) < l.length - i; omega) (by (repeat' (first | exact trivial | exact rfl | exact w3 | exact fun _ => w3 | refine And.intro ?_ ?_))) (by repeat' (first | exact trivial | exact rfl | refine And.intro ?_ ?_)) rfl
  · have hie : l.take i = l.take 20 := by
      rcases Bool.and_eq_false_iff.1 h with h | h
      · have : ¬ (i : Int) < (l.length : Int) := of_decide_eq_false h
        rw [List.take_of_length_le (by omega), List.take_of_length_le (by omega)]
      · have : ¬ (i : Int) < 20 := of_decide_eq_false h
        rw [show i = 20 by omega]
    have hs2 : s = mkS c (l.take 20) := by rw [hse, hie]
    subst hs2
    refine rn [] rfl (by repeat' (first | exact trivial | exact rfl | refine And.intro ?_ ?_)) (roundExit rfl ?_)
    refine rnA [] rfl (by repeat' (first | exact trivial | exact rfl | refine And.intro ?_ ?_)) ?_
    have hρ : Vc.ren [(nx, 3), (nx + 1, 5)] (nx + 1) = 5 := by simp [Vc.ren, Vc.look]
    have hρ0 : Vc.ren [(nx, 3), (nx + 1, 5)] nx = 3 := by simp [Vc.ren, Vc.look]
    exact retN tysOk [(nx, 3), (nx + 1, 5)] rfl (by simp only [retS, SV.eqs, eqsT, TV.eqs, eqsC, CV.eqs, hρ, hρ0]; repeat' (first | exact trivial | exact rfl | refine And.intro ?_ ?_)) (by simp only [newsH, subH, hρ, hρ0]; repeat' (first | exact trivial | exact rfl | refine And.intro ?_ ?_)) (by simp [injK, keysH, newsH, inL, hρ, hρ0]) rfl
end
end Cw
