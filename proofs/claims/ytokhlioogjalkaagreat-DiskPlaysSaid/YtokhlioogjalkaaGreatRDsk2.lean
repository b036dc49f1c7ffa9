/- The document's disk: its methods by reckoning. -/
import Derived.Test.YtokhlioogjalkaaGreatRDsk
import Derived.Test.YtokhlioogjalkaaGreatVcS
namespace Cw
open Go Vc
open Go.Proofs
set_option maxRecDepth 100000
section
variable {α : Type}
def fcs {α : Type} (f : α → List Value) (l : List α) : List Value := (l.map f).flatten
theorem fcs_length {f : α → List Value} {c : Nat} (hc : ∀ a, (f a).length = c) (l : List α) : (fcs f l).length = l.length * c := by
  induction l with
  | nil => simp [fcs]
  | cons p l ih =>
    simp only [fcs, List.map_cons, List.flatten_cons, List.length_append, List.length_cons] at *
    rw [ih, hc, Nat.add_mul]
    omega
theorem fcs_drop {f : α → List Value} {c : Nat} (hc : ∀ a, (f a).length = c) : ∀ (l : List α) (i : Nat) (h : i < l.length), (fcs f l).drop (i * c) = f l[i] ++ fcs f (l.drop (i + 1))
  | a :: l, 0, _ => by simp [fcs]
  | a :: l, i + 1, h => by
    have := fcs_drop hc l i (by simpa using h)
    rw [show (i + 1) * c = c + i * c by rw [Nat.add_mul]; omega, show fcs f (a :: l) = f a ++ fcs f l from rfl, ← List.drop_drop]
    rw [show (f a ++ fcs f l).drop c = fcs f l by rw [← hc a]; exact List.drop_left, this]
    rfl
theorem fcs_at {f : α → List Value} {c : Nat} (hc : ∀ a, (f a).length = c) {l : List α} {i : Nat} (h : i < l.length) {j : Nat} {u : Value} (hu : (f l[i])[j]? = some u) : (fcs f l)[(i : Int).toNat * c + j]? = some u := by
  rw [Int.toNat_natCast, ← List.getElem?_drop, fcs_drop hc l i h, List.getElem?_append_left (List.getElem?_eq_some_iff.1 hu).1]
  exact hu
theorem fcs_app (f : α → List Value) (l : List α) (a : α) : fcs f (l ++ [a]) = fcs f l ++ f a := by simp [fcs]
theorem fcs_split {f : α → List Value} {c : Nat} (hc : ∀ a, (f a).length = c) (l : List α) (i : Nat) (h : i ≤ l.length) : (fcs f l).take (i * c) = fcs f (l.take i) ∧ (fcs f l).drop (i * c) = fcs f (l.drop i) := by
  have e : fcs f l = fcs f (l.take i) ++ fcs f (l.drop i) := by
    have e0 : fcs f (l.take i ++ l.drop i) = fcs f (l.take i) ++ fcs f (l.drop i) := by simp only [fcs, List.map_append, List.flatten_append]
    rw [← e0, List.take_append_drop]
  have hl : (fcs f (l.take i)).length = i * c := by rw [fcs_length hc, List.length_take, Nat.min_eq_left h]
  rw [e]
  exact ⟨List.take_left' hl, List.drop_left' hl⟩
end
def wrC (p : Int × Wr) : List Value := [.int .i64 p.1, .int .i64 p.2.node, .int .i64 p.2.ep, .int .i64 p.2.pl, .string p.2.s]
def wrV (p : Int × Wr) : List CV := [iT p.1, iT p.2.node, iT p.2.ep, iT p.2.pl, .s p.2.s]
abbrev wrs (W : List (Int × Wr)) : List Value := fcs wrC W
theorem wrC_len (p : Int × Wr) : (wrC p).length = 5 := rfl
theorem wrs_length (W : List (Int × Wr)) : (wrs W).length = W.length * 5 := fcs_length wrC_len W
theorem wrs_at {W : List (Int × Wr)} {i : Nat} (h : i < W.length) : (wrs W)[(i : Int).toNat * 5]? = some (.int .i64 W[i].1) := fcs_at (c := 5) (j := 0) wrC_len h rfl
theorem wrs_n {W : List (Int × Wr)} {i : Nat} (h : i < W.length) : (wrs W)[(i : Int).toNat * 5 + 1]? = some (.int .i64 W[i].2.node) := fcs_at (c := 5) (j := 1) wrC_len h rfl
theorem wrs_e {W : List (Int × Wr)} {i : Nat} (h : i < W.length) : (wrs W)[(i : Int).toNat * 5 + 2]? = some (.int .i64 W[i].2.ep) := fcs_at (c := 5) (j := 2) wrC_len h rfl
theorem wrs_p {W : List (Int × Wr)} {i : Nat} (h : i < W.length) : (wrs W)[(i : Int).toNat * 5 + 3]? = some (.int .i64 W[i].2.pl) := fcs_at (c := 5) (j := 3) wrC_len h rfl
theorem wrs_rd {W : List (Int × Wr)} {i : Nat} (h : i < W.length) : Vc.rowAt (wrs W) ((i : Int).toNat * 5) (wrV W[i]) :=
  have g := fun (j : Nat) (u : Value) (hu : (wrC W[i])[j]? = some u) => fcs_at (c := 5) wrC_len h hu
  ⟨g 0 _ rfl, g 1 _ rfl, g 2 _ rfl, g 3 _ rfl, g 4 _ rfl, trivial⟩
theorem wrC_one (p : Int × Wr) : ∀ u ∈ wrC p, u.oneCell' = true := by
  intro u hu
  simp only [wrC, List.mem_cons, List.not_mem_nil, or_false] at hu
  rcases hu with rfl | rfl | rfl | rfl | rfl <;> rfl
theorem wrs_one (W : List (Int × Wr)) : ∀ u ∈ wrs W, u.oneCell' = true := by
  intro u hu
  obtain ⟨l, hl, hu⟩ := List.mem_flatten.1 hu
  obtain ⟨p, _, rfl⟩ := List.mem_map.1 hl
  exact wrC_one p u hu
theorem wrs_app (W : List (Int × Wr)) (p : Int × Wr) : app (wrs W) (wrC p) = wrs (W ++ [p]) := by rw [app_eq]; exact (fcs_app wrC W p).symm
def rdO (S : List ByteArray) (W : List (Int × Wr)) (last : Int) (b : Nat) : List (Bool × Ob) :=
  [(true, .cells [.nm 1, .nm 2, iT last] 42), (true, .own 9 1 S.length (svs S)), (true, .own 78 5 W.length (wrs W)), (false, .pin 0 b)]
def rdP (S : List ByteArray) (W : List (Int × Wr)) (last : Int) (b : Nat) : AbP := absP (rdO S W last b) (.p 0 0)
theorem rd_pins (S : List ByteArray) (W : List (Int × Wr)) (last : Int) (b : Nat) : Pins (rdP S W last b) (ptr b) := pins_abs (k := 3) rfl
def rdX (S : List ByteArray) (W : List (Int × Wr)) (last : Int) : AbP := exP (rdP S W last)
theorem rdX_nn (S : List ByteArray) (W : List (Int × Wr)) (last : Int) : NotNil (rdX S W last) := NotNil.ex fun b => rd_pins _ _ _ _
theorem rd_st (S : List ByteArray) (W : List (Int × Wr)) (last : Int) : ∀ b, stable (rdP S W last b) := fun b => absP_stable _ _
/-- The place of a write. -/
def fxW (k : Int) (W : List (Int × Wr)) : Int := if W.findIdx (fun p => p.1 == k) < W.length then (W.findIdx (fun p => p.1 == k) : Nat) else -1
theorem fxW_ok (k : Int) : ∀ W : List (Int × Wr), (wget k W = none ∧ W.findIdx (fun p => p.1 == k) = W.length) ∨ ∃ i, ∃ h : i < W.length, W.findIdx (fun p => p.1 == k) = i ∧ wget k W = some W[i].2 ∧ W[i].1 = k ∧ wdel k W = W.eraseIdx i
  | [] => .inl ⟨rfl, rfl⟩
  | (q, x) :: l => by
    by_cases hq : q = k
    · refine .inr ⟨0, by simp, by simp [List.findIdx_cons, hq], by simp [wget, hq], hq, by simp [wdel, hq]⟩
    · have hb : (q == k) = false := by simpa using hq
      rcases fxW_ok k l with ⟨h1, h2⟩ | ⟨i, h0, h1, h2, h3, h4⟩
      · exact .inl ⟨by simp [wget, hq, h1], by simp [List.findIdx_cons, hb, h2]⟩
      · refine .inr ⟨i + 1, by simpa using h0, by simp [List.findIdx_cons, hb, h1], by simp [wget, hq, h2], by simpa using h3, by simp [wdel, hq, h4]⟩
def r3' (d l m n : Nat) : Nat := if n = 0 then d else if n = 1 then l else m
section
variable {H : HL} {nx d l m b : Nat} {b1 b2 b3 : Bool} {S : List ByteArray} {W : List (Int × Wr)} {last : Int}
def hRD (S : List ByteArray) (W : List (Int × Wr)) (last : Int) : HL := [(0, some (false, .cells [.nm 1, .nm 2, iT last] 42)), (1, some (false, .own 9 1 S.length (svs S))), (2, some (false, .own 78 5 W.length (wrs W)))]
theorem memRD (hd : lookH H d = some (b1, .cells [.nm l, .nm m, iT last] 42)) (hl : lookH H l = some (b2, .own 9 1 S.length (svs S))) (hm : lookH H m = some (b3, .own 78 5 W.length (wrs W))) : rdsOk (r3' d l m) H (hRD S W last) := ⟨⟨b1, hd⟩, ⟨b2, hl⟩, ⟨b3, hm⟩, trivial⟩
theorem rreadU (hd : lookH H d = some (b1, .cells [.nm l, .nm m, iT last] 42)) (hl : lookH H l = some (b2, .own 9 1 S.length (svs S))) (hm : lookH H m = some (b3, .own 78 5 W.length (wrs W))) (k : Int) :
    FnH Tryz.prog 18 [.c (.p d 0), .c (iT k)] H nx ⟨.tup [.c (.s (rdT S k)), .c (iT (rdE S.length k))], [], [], []⟩ := by
  refine fnR (fn := Tryz.f18) 24 rfl rfl rfl (args' := [.c (.p 0 0), .c (iT k)]) (H' := hRD S W last) (nx' := 3) (fun e w M => ⟨_, mem_rd (r3' d l m) (memRD hd hl hm) M, rfl⟩) rfl rfl rfl rfl fun w => ?_
  show At _ _ _ _ _ _ [(0, some (false, .cells [.nm 1, .nm 2, iT last] 42)), (1, some (false, .own 9 1 S.length (svs S))), (2, some (false, .own 78 5 W.length (wrs W)))] 3
  cases h : inS S.length k with
  | false =>
    have e1 : rdT S k = ⟨#[]⟩ := by simp [rdT, h]
    have e2 : rdE S.length k = 1 := by simp [rdE, h]
    rw [e1, e2]
    refine rn [(16, .dec true)] rfl (by (repeat' (first | exact trivial | exact rfl | exact not_inS h | exact fun _ => not_inS h | refine And.intro ?_ ?_))) ?_
    exact ret0 tysOk rfl (by repeat' (first | exact trivial | exact rfl | refine And.intro ?_ ?_)) rfl
  | true =>
    have e2 : rdE S.length k = 0 := by simp [rdE, h]
    have hb := inS_iff.1 h
    rw [e2]
    refine rn [(16, .dec false), (23, .ld [.s (rdT S k)])] rfl (by (repeat' (first | exact trivial | exact rfl | exact is_inS h | exact fun _ => is_inS h | first | exact svs_rd h | exact hb.1 | exact hb.2 | decide | refine And.intro ?_ ?_))) ?_
    exact ret0 tysOk rfl (by repeat' (first | exact trivial | exact rfl | refine And.intro ?_ ?_)) rfl
theorem rpassesU (hd : lookH H d = some (b1, .cells [.nm l, .nm m, iT last] 42)) (hl : lookH H l = some (b2, .own 9 1 S.length (svs S))) (hm : lookH H m = some (b3, .own 78 5 W.length (wrs W))) (h2 : 2 ≤ S.length) (hz : ∀ s ∈ S, s.size = 64) (node n : Int) :
    FnH Tryz.prog 52 [.c (.p d 0), .c (iT node), .c (iT n)] H nx ⟨.t (.c (.b (psD (s1 S) node n))), [], [], []⟩ := by
  refine fnR (fn := Tryz.f52) 26 rfl rfl rfl (args' := [.c (.p 0 0), .c (iT node), .c (iT n)]) (H' := hRD S W last) (nx' := 3) (fun e w M => ⟨_, mem_rd (r3' d l m) (memRD hd hl hm) M, rfl⟩) rfl rfl rfl rfl fun w => ?_
  show At _ _ _ _ _ _ [(0, some (false, .cells [.nm 1, .nm 2, iT last] 42)), (1, some (false, .own 9 1 S.length (svs S))), (2, some (false, .own 78 5 W.length (wrs W)))] 3
  have hg : s1 S = S[1] := by rw [s1, List.getD_eq_getElem?_getD, List.getElem?_eq_getElem (by omega)]; rfl
  have e1 : (svs S)[(1 : Int).toNat * 1]? = some (.string (s1 S)) := by rw [hg]; exact svs_at (by omega)
  have hs : (s1 S).size = 64 := by rw [hg]; exact hz _ (List.getElem_mem _)
  have hp := rpasses0 (s1 S) node n (by omega)
  have b1 : (1 : Int) < (S.length : Int) := by omega
  cases h : (passE (s1 S) node != 0) with
  | true =>
    have e3 : psD (s1 S) node n = true := by rw [psD, h, Bool.or_true]
    rw [e3]
    refine rn [(15, .ld [.s (s1 S)]), (18, .ret (.tup [.c (.b (passB (s1 S) node n)), .c (iT (passE (s1 S) node))])), (23, .dec true)] rfl (by (repeat' (first | exact trivial | exact rfl | exact e1 | exact fun _ => e1 | first | exact hp | exact b1 | exact h | decide | refine And.intro ?_ ?_))) ?_
    exact ret0 tysOk rfl (by repeat' (first | exact trivial | exact rfl | refine And.intro ?_ ?_)) rfl
  | false =>
    have e3 : psD (s1 S) node n = passB (s1 S) node n := by rw [psD, h, Bool.or_false]
    rw [e3]
    refine rn [(15, .ld [.s (s1 S)]), (18, .ret (.tup [.c (.b (passB (s1 S) node n)), .c (iT (passE (s1 S) node))])), (23, .dec false)] rfl (by (repeat' (first | exact trivial | exact rfl | exact e1 | exact fun _ => e1 | first | exact hp | exact b1 | exact h | decide | refine And.intro ?_ ?_))) ?_
    exact ret0 tysOk rfl (by repeat' (first | exact trivial | exact rfl | refine And.intro ?_ ?_)) rfl
set_option maxRecDepth 100000 in
set_option maxHeartbeats 1000000 in
theorem rfindU (hd : lookH H d = some (b1, .cells [.nm l, .nm m, iT last] 42)) (hl : lookH H l = some (b2, .own 9 1 S.length (svs S))) (hm : lookH H m = some (b3, .own 78 5 W.length (wrs W))) (z : W.length ≤ 1000000) (k : Int) :
    FnH Tryz.prog 44 [.c (.p d 0), .c (iT k)] H nx ⟨.t (.c (iT (fxW k W))), [], [], []⟩ := by
  refine fnR (fn := Tryz.f44) 26 rfl rfl rfl (args' := [.c (.p 0 0), .c (iT k)]) (H' := hRD S W last) (nx' := 3) (fun e w M => ⟨_, mem_rd (r3' d l m) (memRD hd hl hm) M, rfl⟩) rfl rfl rfl rfl fun w => ?_
  show At _ _ _ _ _ _ [(0, some (false, .cells [.nm 1, .nm 2, iT last] 42)), (1, some (false, .own 9 1 S.length (svs S))), (2, some (false, .own 78 5 W.length (wrs W)))] 3
  refine rn [] rfl (by repeat' (first | exact trivial | exact rfl | refine And.intro ?_ ?_)) ?_
  refine At.loop (X := (i : Nat) ×' (i ≤ W.length ∧ i ≤ W.findIdx (fun p => p.1 == k))) 3 (fun s => W.length - s.1)
    (fun s => [(0, .t (.c (.p 0 0))), (1, .t (.c (iT k))), (5, .t (.c (iT (s.1 : Nat))))])
    (fun _ => [(0, some (false, .cells [.nm 1, .nm 2, iT last] 42)), (1, some (false, .own 9 1 S.length (svs S))), (2, some (false, .own 78 5 W.length (wrs W)))]) ⟨0, by omega, by omega⟩ [] (fun s => wf rfl rfl) (by repeat' (first | exact trivial | exact rfl | refine And.intro ?_ ?_)) (by repeat' (first | exact trivial | exact rfl | refine And.intro ?_ ?_)) rfl fun s => ?_
  obtain ⟨i, h1, h2⟩ := s
  have w2 : IntKind.i64.wrap ((i : Int) + 1) = ((i + 1 : Nat) : Int) := by rw [wrap_sm (by omega) (by omega)]; omega
  refine rn [] rfl (by repeat' (first | exact trivial | exact rfl | refine And.intro ?_ ?_)) ?_
  refine ⟨fun h => ?_, fun h => ?_⟩
  · have hlt : i < W.length := by have : (i : Int) < (W.length : Int) := of_decide_eq_true h; omega
    have e1 := wrs_at hlt
    have b0 : (0 : Int) ≤ (i : Int) := by omega
    have b1 : (i : Int) < (W.length : Int) := by omega
    have b2 : (i : Int).toNat * 5 < (wrs W).length := by rw [wrs_length]; omega
    refine rn [(22, .ld [iT W[i].1])] rfl (by (repeat' (first | exact trivial | exact rfl | exact e1 | exact fun _ => e1 | first | exact ⟨e1, trivial⟩ | exact b0 | exact b1 | exact b2 | decide | refine And.intro ?_ ?_))) ?_
    refine ⟨fun h => ?_, fun h => ?_⟩
    · have h' : (W[i].1 == k) = true := h
      have e2 : W.findIdx (fun p => p.1 == k) = i := (List.findIdx_eq hlt).2 ⟨h', fun j hj => by have := List.not_of_lt_findIdx (p := fun p : Int × Wr => p.1 == k) (xs := W) (i := j) (by omega); simpa using this⟩
      have e3 : fxW k W = (i : Int) := by rw [fxW, e2, if_pos hlt]
      refine rn [] rfl (by repeat' (first | exact trivial | exact rfl | refine And.intro ?_ ?_)) (roundRet ?_)
      rw [e3]
      exact ret0 tysOk rfl (by repeat' (first | exact trivial | exact rfl | refine And.intro ?_ ?_)) rfl
    · have h' : (W[i].1 == k) = false := h
      have hne : i + 1 ≤ W.findIdx (fun p => p.1 == k) := by
        rcases Nat.lt_or_eq_of_le h2 with h | h
        · omega
        · have := List.findIdx_getElem (p := fun p : Int × Wr => p.1 == k) (xs := W) (w := by omega)
          simp only [← h] at this
          rw [h'] at this
          cases this
      refine rn [] rfl (by repeat' (first | exact trivial | exact rfl | refine And.intro ?_ ?_)) ?_
      refine roundEnd ⟨i + 1, by omega, hne⟩ [] (by show W.length - (i + 1) < W.length - i; omega) (by (repeat' (first | exact trivial | exact rfl | exact w2 | exact fun _ => w2 | refine And.intro ?_ ?_))) (by repeat' (first | exact trivial | exact rfl | refine And.intro ?_ ?_)) rfl
  · have hlt : i = W.length := by have : ¬ (i : Int) < (W.length : Int) := of_decide_eq_false h; omega
    have e3 : fxW k W = -1 := by rw [fxW, if_neg (by omega)]
    refine rn [] rfl (by repeat' (first | exact trivial | exact rfl | refine And.intro ?_ ?_)) (roundExit rfl ?_)
    refine rnA [] rfl (by repeat' (first | exact trivial | exact rfl | refine And.intro ?_ ?_)) ?_
    rw [e3]
    exact ret0 tysOk rfl (by repeat' (first | exact trivial | exact rfl | refine And.intro ?_ ?_)) rfl
end
section
variable {H : HL} {nx d b : Nat} {S : List ByteArray} {W : List (Int × Wr)} {last : Int}
theorem rreadQ (k : Int) (H : HL) (nx : Nat) (h1 : lookH H 1 = some (true, .cells [.nm 2, .nm 3, iT last] 42)) (h2 : lookH H 2 = some (true, .own 9 1 S.length (svs S))) (h3 : lookH H 3 = some (true, .own 78 5 W.length (wrs W))) :
    FnH Tryz.prog 18 [.c (.p 1 0), .c (iT k)] H nx ⟨.tup [.c (.s (rdT S k)), .c (iT (rdE S.length k))], [], [], []⟩ := rreadU h1 h2 h3 k
theorem rpassQ (h0 : 2 ≤ S.length) (hz : ∀ s ∈ S, s.size = 64) (node n : Int) (H : HL) (nx : Nat) (h1 : lookH H 1 = some (true, .cells [.nm 2, .nm 3, iT last] 42)) (h2 : lookH H 2 = some (true, .own 9 1 S.length (svs S))) (h3 : lookH H 3 = some (true, .own 78 5 W.length (wrs W))) :
    FnH Tryz.prog 52 [.c (.p 1 0), .c (iT node), .c (iT n)] H nx ⟨.t (.c (.b (psD (s1 S) node n))), [], [], []⟩ := rpassesU h1 h2 h3 h0 hz node n
theorem rfindQ (z : W.length ≤ 1000000) (k : Int) (H : HL) (nx : Nat) (h1 : lookH H 1 = some (true, .cells [.nm 2, .nm 3, iT last] 42)) (h2 : lookH H 2 = some (true, .own 9 1 S.length (svs S))) (h3 : lookH H 3 = some (true, .own 78 5 W.length (wrs W))) :
    FnH Tryz.prog 44 [.c (.p 1 0), .c (iT k)] H nx ⟨.t (.c (iT (fxW k W))), [], [], []⟩ := rfindU h1 h2 h3 z k
theorem rreadA (hd : lookH H d = some (true, .ab (rdP S W last b))) (k : Int) : FnH Tryz.prog 18 [.c (.nm d), .c (iT k)] H nx ⟨.tup [.c (.s (rdT S k)), .c (iT (rdE S.length k))], [], [(d, some (.ab (rdP S W last b)))], []⟩ :=
  fnh_shut (O := rdO S W last b) (x := .p 0 0) (v' := .tup [.c (.s (rdT S k)), .c (iT (rdE S.length k))]) (news' := []) hd rfl rfl rfl rfl rfl (rreadU (d := 0) (l := 1) (m := 2) rfl rfl rfl k)
set_option maxRecDepth 100000 in
set_option maxHeartbeats 1000000 in
theorem rlayA (hd : lookH H d = some (true, .ab (rdP S W last b))) (k : Int) (s : ByteArray) : FnH Tryz.prog 35 [.c (.nm d), .c (iT k), .c (.s s)] H nx ⟨.t (.c (iT (wrE S.length k s))), [], [(d, some (.ab (rdP (layS S k s) W last b)))], []⟩ := by
  refine fnA (fn := Tryz.f35) 28 rfl rfl rfl hd (ptr b) (rd_pins _ _ _ _) (rd_pins _ _ _ _) rfl rfl rfl (v' := .t (.c (iT (wrE S.length k s)))) (news' := []) rfl rfl rfl rfl fun w Wr => ?_
  refine At.unfoldTo 0 (L1 := (0, .t (.c (.p 1 0))) :: [(1, .t (.c (iT k))), (2, .t (.c (.s s)))]) (H1 := [(1, some (true, .cells [.nm 2, .nm 3, iT last] 42)), (2, some (true, .own 9 1 S.length (svs S))), (3, some (true, .own 78 5 W.length (wrs W))), (4, some (false, .pin 1 b)), (0, none), (0, some (true, .ab (rdP S W last b)))]) (nx1 := 5) rfl rfl rfl rfl rfl rfl ?_
  have hr := rreadQ (S := S) (W := W) (last := last) k
  cases h1 : inS S.length k with
  | false =>
    have e0 : wrE S.length k s = 1 := by simp [wrE, h1]
    have e1 : layS S k s = S := by rw [layS, e0, if_neg (by decide)]
    have e2 : rdE S.length k = 1 := by simp [rdE, h1]
    rw [e0, e1]
    rw [e2] at hr
    refine rn [(12, .spec ⟨.tup [.c (.s (rdT S k)), .c (iT 1)], [], [], []⟩), (16, .dec true)] rfl (by (repeat' (first | exact trivial | exact rfl | exact trivial | exact fun _ => trivial | first | exact hr _ _ rfl rfl rfl | decide | refine And.intro ?_ ?_))) ?_
    refine Done.fold [(0, 1), (1, 2), (2, 3), (3, 4)] (rdO (S) (W) (last) b) (.p 0 0) (by (repeat' (first | exact trivial | exact rfl | exact trivial | exact fun _ => trivial | trivial | refine And.intro ?_ ?_))) rfl rfl (fun _ => rfl) ?_
    exact retM tysOk [(0, 5)] rfl (by (repeat' (first | exact trivial | exact rfl | exact trivial | exact fun _ => trivial | trivial | refine And.intro ?_ ?_))) (by repeat' (first | exact trivial | exact rfl | refine And.intro ?_ ?_)) rfl rfl
  | true =>
    have e2 : rdE S.length k = 0 := by simp [rdE, h1]
    have hb := inS_iff.1 h1
    have hlt : k.toNat < S.length := by omega
    have hl : (svs S).length = S.length := svs_length S
    rw [e2] at hr
    by_cases hs : s.size = 64
    · have e0 : wrE S.length k s = 0 := by simp [wrE, h1, hs]
      have e1 : layS S k s = S.set k.toNat s := if_pos e0
      have d1 : (((s.size : Nat) : Int) != 64) = false := by rw [hs]; rfl
      rw [e0, e1]
      refine rn [(12, .spec ⟨.tup [.c (.s (rdT S k)), .c (iT 0)], [], [], []⟩), (16, .dec false), (20, .dec false)] rfl (by (repeat' (first | exact trivial | exact rfl | exact trivial | exact fun _ => trivial | first | exact hr _ _ rfl rfl rfl | exact d1 | exact hb.1 | exact hb.2 | (show k.toNat * 1 + 1 ≤ (svs S).length; omega) | decide | refine And.intro ?_ ?_))) ?_
      refine Done.fold [(0, 1), (1, 2), (2, 3), (3, 4)] (rdO (S.set k.toNat s) (W) (last) b) (.p 0 0) (by (repeat' (first | exact trivial | exact rfl | exact trivial | exact fun _ => trivial | first | exact (List.length_set ..).symm | exact set_svs hlt | refine And.intro ?_ ?_))) rfl rfl (fun _ => rfl) ?_
      exact retM tysOk [(0, 5)] rfl (by (repeat' (first | exact trivial | exact rfl | exact trivial | exact fun _ => trivial | first | exact (List.length_set ..).symm | exact set_svs hlt | refine And.intro ?_ ?_))) (by repeat' (first | exact trivial | exact rfl | refine And.intro ?_ ?_)) rfl rfl
    · have e0 : wrE S.length k s = 3 := by simp [wrE, h1, hs]
      have e1 : layS S k s = S := by rw [layS, e0, if_neg (by decide)]
      have d1 : (((s.size : Nat) : Int) != 64) = true := by simp; omega
      rw [e0, e1]
      refine rn [(12, .spec ⟨.tup [.c (.s (rdT S k)), .c (iT 0)], [], [], []⟩), (16, .dec false), (20, .dec true)] rfl (by (repeat' (first | exact trivial | exact rfl | exact trivial | exact fun _ => trivial | first | exact hr _ _ rfl rfl rfl | exact d1 | decide | refine And.intro ?_ ?_))) ?_
      refine Done.fold [(0, 1), (1, 2), (2, 3), (3, 4)] (rdO (S) (W) (last) b) (.p 0 0) (by (repeat' (first | exact trivial | exact rfl | exact trivial | exact fun _ => trivial | trivial | refine And.intro ?_ ?_))) rfl rfl (fun _ => rfl) ?_
      exact retM tysOk [(0, 5)] rfl (by (repeat' (first | exact trivial | exact rfl | exact trivial | exact fun _ => trivial | trivial | refine And.intro ?_ ?_))) (by repeat' (first | exact trivial | exact rfl | refine And.intro ?_ ?_)) rfl rfl
end
end Cw
