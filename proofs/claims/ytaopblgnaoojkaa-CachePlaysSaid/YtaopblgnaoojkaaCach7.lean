/- The statement CacheOldest, by reckoning. -/
import Derived.Test.YtaopblgnaoojkaaCach6
import Derived.Test.YtaopblgnaoojkaaAmV
namespace Cw
open Go Vc
open Go.Proofs
set_option maxRecDepth 100000
theorem lookC_void (n : Nat) : lookH [(0, none)] n = none := by
  rw [lookH_cons]
  split <;> rfl
theorem memC_void {W : Nat → Prop} (e : Env) (w : World) : Mem W [(0, none)] e w := ⟨fun n b o h => (by rw [lookC_void] at h; cases h), fun n o m c q h => (by rw [lookC_void] at h; cases h)⟩
theorem nilC {H : HL} {nx d : Nat} {room n : Int} {L : List (Int × Bd)} (hd : lookH H d = some (true, .ab (cl room n L))) {Lc : LL} {o : Oper} {x y : Operand} (hop : o.op = .binOp .eql 23 x y 23) (hx : ev Lc x = some (.c (.nm d))) (hy : ev Lc y = some (.c .np)) : Spec Try.prog Lc H nx o ⟨.t (.c (.b false)), [], [], []⟩ :=
  spec_nil tysOk hop hx hy rfl rfl hd (cl_nn _ _ _)
/-- The sector of the example. -/
def xX : ByteArray := fit ⟨#[120]⟩
theorem xX_size : xX.size = 64 := fit_size _
def xB : Bd := ⟨xX, false, 0⟩
theorem xfit0 : Fn0 Try.prog 10 [.c (.s ⟨#[120]⟩)] (.t (.c (.s xX))) := fit0 ⟨#[120]⟩ (by decide)
theorem xXx : (xX.toList == xX.toList) = true := beq_self_eq_true _
theorem w1p : putR 2 [] 1 xX false = (-1, 0, [(1, xB)]) := by simp [putR, xX_size, gget, xB]
theorem w2p : putR 2 [(1, xB)] 2 xX false = (-1, 0, [(1, xB), (2, xB)]) := by simp [putR, xX_size, gget, xB]
theorem w3g : getR [(1, xB), (2, xB)] 1 = xX ∧ getB [(1, xB), (2, xB)] 1 = true ∧ getS [(1, xB), (2, xB)] 1 = [(2, xB), (1, xB)] := ⟨rfl, rfl, rfl⟩
theorem w4p : putR 2 [(2, xB), (1, xB)] 3 xX false = (2, 0, [(1, xB), (3, xB)]) := by
  have : oldL [(2, xB), (1, xB)] = 2 := rfl
  simp [putR, xX_size, gget, this, gdel]
  rfl
theorem w5a : allR [(1, xB), (3, xB)] = [1, 3] := srtI_sorted (l := [1, 3]) (by simp)
theorem wok1 : LOk 1 2 [(1, xB)] := by have := (LOk.new (m := 2) (by decide) (by decide)).put 1 xX false; rw [w1p] at this; exact this
theorem wok2 : LOk 2 2 [(1, xB), (2, xB)] := by have := wok1.put 2 xX false; rw [w2p] at this; exact this
theorem wok3 : LOk 3 2 [(2, xB), (1, xB)] := by have := wok2.get 1; rw [w3g.2.2] at this; exact this
theorem wok4 : LOk 4 2 [(1, xB), (3, xB)] := by have := wok3.put 3 xX false; rw [w4p] at this; exact this
set_option maxRecDepth 100000 in
set_option maxHeartbeats 1000000 in
theorem cworks_h {H : HL} {nx : Nat} : FnH Try.prog 7 [] H nx ⟨.t (.c (.b true)), [], [], []⟩ := by
  refine fnR (fn := Try.f7) 55 rfl rfl rfl (args' := []) (H' := [(0, none)]) (nx' := 1) (fun e w M => ⟨e, memC_void e w, rfl⟩) rfl rfl rfl rfl fun w => ?_
  have p1 : ∀ (H : HL) (nx : Nat), lookH H 1 = some (true, .ab (cl 2 0 [])) → FnH Try.prog 9 [.c (.nm 1), .c (iT 1), .c (.s xX), .c (.b false)] H nx ⟨.tup [.c (iT (-1)), .c (iT 0)], [], [(1, some (.ab (cl 2 1 [(1, xB)])))], []⟩ := fun H nx h => by
    have := putL (nx := nx) h (LOk.new (by decide) (by decide)) (by decide) 1 xX false
    rw [w1p] at this; exact this
  have p2 : ∀ (H : HL) (nx : Nat), lookH H 1 = some (true, .ab (cl 2 1 [(1, xB)])) → FnH Try.prog 9 [.c (.nm 1), .c (iT 2), .c (.s xX), .c (.b false)] H nx ⟨.tup [.c (iT (-1)), .c (iT 0)], [], [(1, some (.ab (cl 2 2 [(1, xB), (2, xB)])))], []⟩ := fun H nx h => by
    have := putL (nx := nx) h wok1 (by decide) 2 xX false
    rw [w2p] at this; exact this
  have p3 : ∀ (H : HL) (nx : Nat), lookH H 1 = some (true, .ab (cl 2 2 [(1, xB), (2, xB)])) → FnH Try.prog 11 [.c (.nm 1), .c (iT 1)] H nx ⟨.tup [.c (.s xX), .c (.b true)], [], [(1, some (.ab (cl 2 3 [(2, xB), (1, xB)])))], []⟩ := fun H nx h => by
    have := getL (nx := nx) h wok2 (by decide) 1
    rw [w3g.1, w3g.2.1, w3g.2.2] at this; exact this
  have p4 : ∀ (H : HL) (nx : Nat), lookH H 1 = some (true, .ab (cl 2 3 [(2, xB), (1, xB)])) → FnH Try.prog 9 [.c (.nm 1), .c (iT 3), .c (.s xX), .c (.b false)] H nx ⟨.tup [.c (iT 2), .c (iT 0)], [], [(1, some (.ab (cl 2 4 [(1, xB), (3, xB)])))], []⟩ := fun H nx h => by
    have := putL (nx := nx) h wok3 (by decide) 3 xX false
    rw [w4p] at this; exact this
  have p5 : ∀ (H : HL) (nx : Nat), lookH H 1 = some (true, .ab (cl 2 4 [(1, xB), (3, xB)])) → FnH Try.prog 17 [.c (.nm 1)] H nx ⟨.t (.c (.nm nx)), [(true, .own 3 1 2 (ivs [1, 3]))], [(1, some (.ab (cl 2 5 [(1, xB), (3, xB)])))], []⟩ := fun H nx h => by
    have := allL (nx := nx) h wok4
    rw [w5a] at this; exact this
  refine rn [(8, .spec ⟨.tup [.c (.nm 1), .c (iT 0)], [(true, .ab (cl 2 0 []))], [], []⟩), (12, .spec ⟨.t (.c (.b false)), [], [], []⟩), (16, .dec false), (17, .ret (.t (.c (.s xX)))), (20, .spec ⟨.tup [.c (iT (-1)), .c (iT 0)], [], [(1, some (.ab (cl 2 1 [(1, xB)])))], []⟩), (23, .spec ⟨.tup [.c (iT (-1)), .c (iT 0)], [], [(1, some (.ab (cl 2 2 [(1, xB), (2, xB)])))], []⟩),
    (26, .spec ⟨.tup [.c (.s xX), .c (.b true)], [], [(1, some (.ab (cl 2 3 [(2, xB), (1, xB)])))], []⟩), (32, .spec ⟨.tup [.c (iT 2), .c (iT 0)], [], [(1, some (.ab (cl 2 4 [(1, xB), (3, xB)])))], []⟩), (38, .dec true), (41, .dec true), (45, .dec true), (49, .dec true), (51, .spec ⟨.t (.c (.nm 2)), [(true, .own 3 1 2 (ivs [1, 3]))], [(1, some (.ab (cl 2 5 [(1, xB), (3, xB)])))], []⟩), (52, .dec true), (53, .spec ⟨.t (.c (.b true)), [], [], []⟩)] rfl (by
      (repeat' (first | exact trivial | exact rfl | exact xfit0 | exact fun _ => xfit0 | first | exact cnewL (m := 2) (by decide) (by decide) | exact nilC rfl rfl rfl rfl | exact p1 _ _ rfl | exact p2 _ _ rfl | exact p3 _ _ rfl | exact p4 _ _ rfl | exact p5 _ _ rfl | exact sameInts_h (l1 := [1, 3]) (l2 := [1, 3]) (SlR.own rfl) (SlR.own rfl) (by decide) | exact xXx | rfl | refine And.intro ?_ ?_))) ?_
  exact ret0 tysOk rfl (by repeat' (first | exact trivial | exact rfl | refine And.intro ?_ ?_)) rfl
/-- The cache when the sectors of a list are there, all clean and free. -/
def gX (k : Int) : Int × Bd := (k, xB)
theorem gX_get {k : Int} : ∀ {O : List Int}, gget k (O.map gX) = if k ∈ O then some xB else none
  | [] => rfl
  | x :: O => by
    rw [List.map_cons, gget_cons, gX_get]
    show (if x = k then _ else _) = _
    by_cases h : x = k
    · rw [if_pos h, if_pos (by simp [h])]; rfl
    · rw [if_neg h]
      by_cases h2 : k ∈ O
      · rw [if_pos h2, if_pos (by simp [h2])]
      · rw [if_neg h2, if_neg (by simp [h2]; exact fun e => h e.symm)]
theorem gX_del {k : Int} : ∀ {O : List Int}, gdel k (O.map gX) = (O.erase k).map gX
  | [] => rfl
  | x :: O => by
    rw [List.map_cons, gdel_cons, gX_del, List.erase_cons]
    show (if x = k then _ else _) = _
    by_cases h : x = k
    · rw [if_pos h, if_pos (by simp [h])]
    · rw [if_neg h, if_neg (by simp [h])]; rfl
theorem gX_old {x : Int} {O : List Int} : oldL ((x :: O).map gX) = x := rfl
/-- What holds at each round's beginning. -/
structure OOk (O : List Int) : Prop where
  nd : O.Nodup
  rg : ∀ k ∈ O, 0 ≤ k ∧ k < 9
  len : O.length ≤ 4
theorem OOk.lok {O : List Int} (h : OOk O) {n : Int} (hn : 0 ≤ n) : LOk n 4 (O.map gX) := by
  have e : (O.map gX).map Prod.fst = O := by rw [List.map_map]; exact List.map_id' O
  refine ⟨by rw [e]; exact h.nd, fun p hp => ?_, by rw [List.length_map]; have := h.len; omega, ⟨by decide, by decide⟩, fun p hp => ?_, hn⟩
  · obtain ⟨k, hk, rfl⟩ := List.mem_map.1 hp
    have := h.rg k hk
    exact ⟨this.1, by show k < 2048; omega⟩
  · obtain ⟨k, hk, rfl⟩ := List.mem_map.1 hp
    exact ⟨Int.le_refl _, hn⟩
theorem OOk.erase {O : List Int} (h : OOk O) {k : Int} (hk : 0 ≤ k ∧ k < 9) (hm : k ∈ O) : OOk (O.erase k ++ [k]) := by
  have hl := List.length_erase_of_mem hm
  refine ⟨?_, fun j hj => ?_, ?_⟩
  · rw [List.nodup_append]
    refine ⟨h.nd.erase k, by simp, fun a ha b hb => ?_⟩
    simp at hb
    subst hb
    rintro rfl
    exact (h.nd.not_mem_erase) ha
  · rcases List.mem_append.1 hj with hj | hj
    · exact h.rg j (List.mem_of_mem_erase hj)
    · simp at hj; subst hj; exact hk
  · have := h.len
    have := List.length_pos_of_mem hm
    simp; omega
theorem OOk.add {O : List Int} (h : OOk O) {k : Int} (hk : 0 ≤ k ∧ k < 9) (hm : k ∉ O) (hl : O.length < 4) : OOk (O ++ [k]) := by
  refine ⟨?_, fun j hj => ?_, by simp; omega⟩
  · rw [List.nodup_append]
    refine ⟨h.nd, by simp, fun a ha b hb => ?_⟩
    simp at hb
    subst hb
    rintro rfl
    exact hm ha
  · rcases List.mem_append.1 hj with hj | hj
    · exact h.rg j hj
    · simp at hj; subst hj; exact hk
theorem OOk.tail {x : Int} {O : List Int} (h : OOk (x :: O)) : OOk O := ⟨(List.nodup_cons.1 h.nd).2, fun k hk => h.rg k (by simp [hk]), by have := h.len; simp at this; omega⟩
theorem erase_at {a : Int} : ∀ {O : List Int} {m : Nat} (h : m < O.length), O.Nodup → O[m] = a → O.erase a = O.take m ++ O.drop (m + 1)
  | x :: O, 0, _, _, he => by
    have he' : x = a := he
    rw [List.erase_cons, if_pos (by simp [he'])]
    rfl
  | x :: O, m + 1, h, hn, he => by
    have hm : m < O.length := by simpa using h
    have he' : O[m] = a := by simpa using he
    have hx : x ≠ a := fun e => (List.nodup_cons.1 hn).1 (by rw [e, ← he']; exact List.getElem_mem _)
    rw [List.erase_cons, if_neg (by simp [hx]), erase_at hm (List.nodup_cons.1 hn).2 he']
    rfl
/-- Where the inner loop is: the place of k among the first j. -/
def lastAt (O : List Int) (a : Int) (j : Nat) (k : Int) : Prop := (k = -1 ∧ ∀ i (h : i < O.length), i < j → O[i] ≠ a) ∨ ∃ i, ∃ h : i < O.length, i < j ∧ k = (i : Int) ∧ O[i] = a
set_option maxRecDepth 100000 in
set_option maxHeartbeats 4000000 in
theorem cacheOldest_h (xs : List Int) (z : xs.length ≤ 100000000000000) : FnH Try.prog 3 [.c (.nm 0)] [(0, some (false, .rd 1 xs.length (ivs xs)))] 1 ⟨.t (.c (.b true)), [], [], []⟩ := by
  refine fnR (fn := Try.f3) 97 rfl rfl rfl (args' := [.c (.nm 0)]) (H' := [(0, some (false, .rd 1 xs.length (ivs xs)))]) (nx' := 1) (fun e w M => ⟨_, mem_rd (fun n => n) (H' := [(0, some (false, .rd 1 xs.length (ivs xs)))]) ⟨⟨false, rfl⟩, trivial⟩ M, rfl⟩) rfl rfl rfl rfl fun w => ?_
  refine rn [(14, .spec ⟨.tup [.c (.nm 1), .c (iT 0)], [(true, .ab (cl 4 0 []))], [], []⟩), (18, .spec ⟨.t (.c (.b false)), [], [], []⟩), (19, .dec false), (23, .dec false), (24, .spec ⟨.t (.c (.b true)), [], [], []⟩), (26, .dec false)] rfl (by (repeat' (first | exact trivial | exact rfl | exact trivial | exact fun _ => trivial | first | exact cnewL (m := 4) (by decide) (by decide) | exact nilC rfl rfl rfl rfl | exact cworks_h | refine And.intro ?_ ?_))) ?_
  refine At.nil 5 3 1 rfl ?_
  refine At.loop (X := (x : Nat × List Int) ×' (x.1 ≤ xs.length ∧ x.1 ≤ 60 ∧ OOk x.2)) 3 (fun x => xs.length - x.1.1)
    (fun x => [(0, .t (.c (.nm 0))), (3, .t (.c (.nm 1))), (5, .t (.c (.nm 2))), (6, .t (.c (iT (x.1.1 : Nat))))])
    (fun x => [(0, some (false, .rd 1 xs.length (ivs xs))), (1, some (true, .ab (cl 4 (x.1.1 : Nat) (x.1.2.map gX)))), (2, some (true, .own 3 1 x.1.2.length (ivs x.1.2)))])
    ⟨(0, []), by omega, by omega, ⟨by simp, by simp, by simp⟩⟩ [] (fun x => wf rfl rfl) (by repeat' (first | exact trivial | exact rfl | refine And.intro ?_ ?_)) (by repeat' (first | exact trivial | exact rfl | refine And.intro ?_ ?_)) rfl fun x => ?_
  obtain ⟨⟨i, O⟩, hi1, hi2, hO⟩ := x
  simp only at hi1 hi2 hO
  have w2 : IntKind.i64.wrap ((i : Int) + 1) = ((i + 1 : Nat) : Int) := by rw [wrap_small (by omega) (by omega)]; omega
  refine rn [] rfl (by repeat' (first | exact trivial | exact rfl | refine And.intro ?_ ?_)) ?_
  refine ⟨fun h => ?_, fun h => ?_⟩
  · have hlt : i < xs.length := by have := of_decide_eq_true (Bool.and_eq_true_iff.1 h).1; simp only at this; omega
    have h60 : i < 60 := by have := of_decide_eq_true (Bool.and_eq_true_iff.1 h).2; simp only at this; omega
    have e1 : (ivs xs)[(i : Int).toNat * 1]? = some (.int .i64 xs[i]) := by simpa using ivs_at hlt
    have b0 : (0 : Int) ≤ (i : Int) := by omega
    have b1 : (i : Int) < (xs.length : Int) := by omega
    have am := amV xs[i] 9 (by decide) (by decide)
    have hat : 0 ≤ xs[i] % 9 ∧ xs[i] % 9 < 9 := ⟨Int.emod_nonneg _ (by decide), Int.emod_lt_of_pos _ (by decide)⟩
    generalize xs[i] % 9 = a at *
    refine rn [(40, .ld [iT xs[i]]), (41, .ret (.t (.c (iT a))))] rfl (by (repeat' (first | exact trivial | exact rfl | exact am | exact fun _ => am | first | exact e1 | exact b0 | exact b1 | decide | refine And.intro ?_ ?_))) ?_
    refine At.loop (X := (y : Nat × Int) ×' (y.1 ≤ O.length ∧ lastAt O a y.1 y.2)) 3 (fun y => O.length - y.1.1)
      (fun y => [(0, .t (.c (.nm 0))), (3, .t (.c (.nm 1))), (5, .t (.c (.nm 2))), (6, .t (.c (iT (i : Nat)))), (7, .t (.c (iT a))), (8, .t (.c (iT y.1.2))), (42, .t (.c (.nm 2))), (43, .t (.c (iT (O.length : Nat)))), (44, .t (.c (iT (y.1.1 : Nat))))])
      (fun y => [(0, some (false, .rd 1 xs.length (ivs xs))), (1, some (true, .ab (cl 4 (i : Nat) (O.map gX)))), (2, some (true, .own 3 1 O.length (ivs O)))])
      ⟨(0, -1), by omega, .inl ⟨rfl, fun _ _ h => by simp only at h; omega⟩⟩ [] (fun x => wf rfl rfl) (by repeat' (first | exact trivial | exact rfl | refine And.intro ?_ ?_)) (by repeat' (first | exact trivial | exact rfl | refine And.intro ?_ ?_)) rfl fun y => ?_
    obtain ⟨⟨j, k⟩, hj1, hj2⟩ := y
    simp only at hj1 hj2
    have hOl := hO.len
    have w3 : IntKind.i64.wrap ((j : Int) + 1) = ((j + 1 : Nat) : Int) := by rw [wrap_small (by omega) (by omega)]; omega
    refine rn [] rfl (by repeat' (first | exact trivial | exact rfl | refine And.intro ?_ ?_)) ?_
    refine ⟨fun h => ?_, fun h => ?_⟩
    · have hjl : j < O.length := by have : (j : Int) < (O.length : Int) := of_decide_eq_true h; omega
      have e2 : (ivs O)[(j : Int).toNat * 1]? = some (.int .i64 O[j]) := by simpa using ivs_at hjl
      have c0 : (0 : Int) ≤ (j : Int) := by omega
      have c1 : (j : Int) < (O.length : Int) := by omega
      refine rn [(50, .ld [iT O[j]])] rfl (by (repeat' (first | exact trivial | exact rfl | exact trivial | exact fun _ => trivial | first | exact e2 | exact c0 | exact c1 | decide | refine And.intro ?_ ?_))) ?_
      refine ⟨fun h => ?_, fun h => ?_⟩
      · have he : O[j] = a := by simpa using h
        refine rn [] rfl (by repeat' (first | exact trivial | exact rfl | refine And.intro ?_ ?_)) ?_
        exact roundEnd ⟨(j + 1, (j : Int)), by omega, .inr ⟨j, hjl, by omega, rfl, he⟩⟩ [] (by show O.length - (j + 1) < O.length - j; omega) (by (repeat' (first | exact trivial | exact rfl | exact w3 | exact fun _ => w3 | refine And.intro ?_ ?_))) (by repeat' (first | exact trivial | exact rfl | refine And.intro ?_ ?_)) rfl
      · have he : O[j] ≠ a := by simpa using h
        refine rn [] rfl (by repeat' (first | exact trivial | exact rfl | refine And.intro ?_ ?_)) ?_
        refine roundEnd ⟨(j + 1, k), by omega, ?_⟩ [] (by show O.length - (j + 1) < O.length - j; omega) (by (repeat' (first | exact trivial | exact rfl | exact w3 | exact fun _ => w3 | refine And.intro ?_ ?_))) (by repeat' (first | exact trivial | exact rfl | refine And.intro ?_ ?_)) rfl
        rcases hj2 with ⟨g1, g2⟩ | ⟨m, g1, g2, g3, g4⟩
        · refine .inl ⟨g1, fun m hm hmj => ?_⟩
          rcases Nat.lt_or_eq_of_le (Nat.le_of_lt_succ hmj) with h | rfl
          · exact g2 m hm h
          · exact he
        · exact .inr ⟨m, g1, by omega, g3, g4⟩
    · have hjl : j = O.length := by have : ¬ (j : Int) < (O.length : Int) := of_decide_eq_false h; omega
      refine rn [] rfl (by repeat' (first | exact trivial | exact rfl | refine And.intro ?_ ?_)) (roundExit rfl ?_)
      have hok := hO.lok (n := i) (by omega)
      have hP : ∀ (H : HL) (nx : Nat), lookH H 1 = some (true, .ab (cl 4 (i : Nat) (O.map gX))) → FnH Try.prog 9 [.c (.nm 1), .c (iT a), .c (.s xX), .c (.b false)] H nx ⟨.tup [.c (iT (putR 4 (O.map gX) a xX false).1), .c (iT (putR 4 (O.map gX) a xX false).2.1)], [], [(1, some (.ab (cl 4 ((i : Nat) + 1) (putR 4 (O.map gX) a xX false).2.2)))], []⟩ := fun H nx h => putL h hok (by omega) a xX false
      have hr1 : ¬ (a < 0 ∨ 2048 ≤ a) := by omega
      rcases hj2 with ⟨g1, g2⟩ | ⟨m, g1, g2, g3, g4⟩
      · subst g1
        have hno : a ∉ O := fun hm => by
          obtain ⟨m, hm, he⟩ := List.mem_iff_getElem.1 hm
          exact g2 m hm (by omega) he
        have o1 := ivs_one O
        have o2 := ivs_lit a
        have d0 : decide ((0 : Int) ≤ (-1 : Int)) = false := rfl
        by_cases h4 : O.length = 4
        · obtain ⟨x, O', rfl⟩ : ∃ x O', O = x :: O' := by
            cases O with
            | nil => simp at h4
            | cons x O' => exact ⟨x, O', rfl⟩
          have hx := hO.rg x (by simp)
          have hO' : OOk (O' ++ [a]) := hO.tail.add hat (fun h => hno (by simp [h])) (by simp at h4; omega)
          have hput : putR 4 ((x :: O').map gX) a xX false = (x, 0, (O' ++ [a]).map gX) := by
            unfold putR
            rw [if_neg hr1, if_neg (by rw [xX_size]; decide), gX_get, if_neg hno]
            simp only
            rw [if_neg (by rw [List.length_map, h4]; decide), gX_old, if_neg (by omega), gX_del, List.erase_cons_head, List.map_append]
            rfl
          rw [hput] at hP
          have hl3 : O'.length = 3 := by simp at h4; omega
          have d1 : (((x :: O').length : Int) == 4) = true := by rw [h4]; rfl
          have c0 : (0 : Int) < ((x :: O').length : Int) := by rw [h4]; decide
          have c1 : (1 : Int) ≤ ((x :: O').length : Int) := by rw [h4]; decide
          have e2 : (ivs (x :: O'))[(0 : Int).toNat * 1]? = some (.int .i64 x) := rfl
          have m1 : 0 + ((x :: O').length - 1) ≤ maxLen := by rw [h4]; decide
          have m2 : (0 + ((x :: O').length - 1)) * 8 ≤ 140737488355328 := by rw [h4]; decide
          have m3 : 0 + ((x :: O').length - 1) + 1 ≤ maxLen := by rw [h4]; decide
          have m4 : (0 + ((x :: O').length - 1) + 1) * 8 ≤ 140737488355328 := by rw [h4]; decide
          have m5 : 1 + ((x :: O').length - 1) ≤ (x :: O').length := by rw [h4]; decide
          have v1 : ((0 : Int) != 0 || x != x) = false := by simp
          have e5 : 0 + ((x :: O').length - 1) + 1 = (O' ++ [a]).length := by simp
          have e6 : app (app [] (((ivs (x :: O')).drop (1 * 1)).take (((x :: O').length - 1) * 1))) [Value.int .i64 a] = ivs (O' ++ [a]) := by
            rw [app_eq, app_eq]
            simp [ivs, hl3, ← List.map_take, List.take_of_length_le (Nat.le_of_eq hl3)]
          refine rnA [(58, .ret (.t (.c (.s xX)))), (59, .spec ⟨.tup [.c (iT x), .c (iT 0)], [], [(1, some (.ab (cl 4 ((i : Nat) + 1) ((O' ++ [a]).map gX))))], []⟩), (62, .dec false), (75, .dec true), (81, .ld [iT x]), (82, .dec true), (88, .dec true), (96, .dec false)] rfl ?_ ?_
          · (repeat' (first | exact trivial | exact rfl | exact xfit0 | exact fun _ => xfit0 | first | exact hP _ _ rfl | exact d0 | exact d1 | exact e2 | exact c0 | exact c1 | exact m1 | exact m2 | exact m3 | exact m4 | exact m5 | exact o1 | exact o2 | exact v1 | decide | refine And.intro ?_ ?_))
          · refine roundEnd ⟨(i + 1, O' ++ [a]), by omega, by omega, hO'⟩ [(2, 6)] (by show xs.length - (i + 1) < xs.length - i; omega) (by (repeat' (first | exact trivial | exact rfl | exact w2 | exact fun _ => w2 | refine And.intro ?_ ?_))) ?_ rfl
            (repeat' (first | exact trivial | exact rfl | exact e6 | exact fun _ => e6 | exact e5 | refine And.intro ?_ ?_))
        · have hO' := hO.add hat hno (by omega)
          have hput : putR 4 (O.map gX) a xX false = (-1, 0, (O ++ [a]).map gX) := by
            unfold putR
            rw [if_neg hr1, if_neg (by rw [xX_size]; decide), gX_get, if_neg hno]
            simp only
            rw [if_pos (by rw [List.length_map]; omega), List.map_append]
            rfl
          rw [hput] at hP
          have d1 : ((O.length : Int) == 4) = false := by simp; omega
          have m1 : O.length + 1 ≤ maxLen := by simp [maxLen]; omega
          have m2 : (O.length + 1) * 8 ≤ 140737488355328 := by omega
          have e5 : O.length + 1 = (O ++ [a]).length := by simp
          have e6 : app (ivs O) [Value.int .i64 a] = ivs (O ++ [a]) := by rw [app_eq]; simp [ivs]
          refine rnA [(58, .ret (.t (.c (.s xX)))), (59, .spec ⟨.tup [.c (iT (-1)), .c (iT 0)], [], [(1, some (.ab (cl 4 ((i : Nat) + 1) ((O ++ [a]).map gX))))], []⟩), (62, .dec false), (75, .dec false), (88, .dec true), (96, .dec false)] rfl ?_ ?_
          · (repeat' (first | exact trivial | exact rfl | exact xfit0 | exact fun _ => xfit0 | first | exact hP _ _ rfl | exact d0 | exact d1 | exact m1 | exact m2 | exact o1 | exact o2 | decide | refine And.intro ?_ ?_))
          · refine roundEnd ⟨(i + 1, O ++ [a]), by omega, by omega, hO'⟩ [(2, 4)] (by show xs.length - (i + 1) < xs.length - i; omega) (by (repeat' (first | exact trivial | exact rfl | exact w2 | exact fun _ => w2 | refine And.intro ?_ ?_))) ?_ rfl
            (repeat' (first | exact trivial | exact rfl | exact e6 | exact fun _ => e6 | exact e5 | refine And.intro ?_ ?_))
      · have hmem : a ∈ O := by rw [← g4]; exact List.getElem_mem _
        have hput : putR 4 (O.map gX) a xX false = (-1, 0, (O.erase a ++ [a]).map gX) := by
          unfold putR
          rw [if_neg hr1, if_neg (by rw [xX_size]; decide), gX_get, if_pos hmem, gX_del, List.map_append]
          rfl
        rw [hput] at hP
        subst g3
        have w4 : IntKind.i64.wrap ((m : Int) + 1) = ((m + 1 : Nat) : Int) := by rw [wrap_small (by omega) (by omega)]; omega
        have w5 : (IntKind.i64.wrap ((m : Int) + 1)).toNat = m + 1 := by rw [w4]; omega
        have d0 : decide ((0 : Int) ≤ (m : Int)) = true := decide_eq_true (by omega)
        have o1 := ivs_one O
        have o2 := ivs_lit a
        have m1 : 0 + (m : Int).toNat + (O.length - (IntKind.i64.wrap ((m : Int) + 1)).toNat) + 1 ≤ maxLen := by simp [maxLen]; omega
        have m2 : (0 + (m : Int).toNat + (O.length - (IntKind.i64.wrap ((m : Int) + 1)).toNat) + 1) * 8 ≤ 140737488355328 := by omega
        have m3 : 0 + (m : Int).toNat + (O.length - (IntKind.i64.wrap ((m : Int) + 1)).toNat) ≤ maxLen := by simp [maxLen]; omega
        have m4 : (0 + (m : Int).toNat + (O.length - (IntKind.i64.wrap ((m : Int) + 1)).toNat)) * 8 ≤ 140737488355328 := by omega
        have m5 : (IntKind.i64.wrap ((m : Int) + 1)).toNat + (O.length - (IntKind.i64.wrap ((m : Int) + 1)).toNat) ≤ O.length := by omega
        have m6 : (0 : Int) ≤ IntKind.i64.wrap ((m : Int) + 1) := by omega
        have m7 : IntKind.i64.wrap ((m : Int) + 1) ≤ (O.length : Int) := by omega
        have m8 : 0 + (m : Int).toNat ≤ maxLen := by simp [maxLen]; omega
        have m9 : (0 + (m : Int).toNat) * 8 ≤ 140737488355328 := by omega
        have n1 : 0 + (m : Int).toNat ≤ O.length := by omega
        have n2 : (0 : Int) ≤ (m : Int) := by omega
        have n3 : (m : Int) ≤ (O.length : Int) := by omega
        have e5 : 0 + (m : Int).toNat + (O.length - (IntKind.i64.wrap ((m : Int) + 1)).toNat) + 1 = (O.erase a ++ [a]).length := by
          rw [List.length_append, List.length_erase_of_mem hmem, w5]
          simp
          omega
        have e6 : app (app (app [] (((ivs O).drop 0).take ((m : Int).toNat * 1))) (((ivs O).drop ((IntKind.i64.wrap ((m : Int) + 1)).toNat * 1)).take ((O.length - (IntKind.i64.wrap ((m : Int) + 1)).toNat) * 1))) [Value.int .i64 a] = ivs (O.erase a ++ [a]) := by
          rw [app_eq, app_eq, app_eq, erase_at g1 hO.nd g4, w5]
          simp only [ivs, List.nil_append, List.drop_zero, Int.toNat_natCast, Nat.mul_one, List.map_append, List.map_take, List.map_drop]
          rw [List.take_of_length_le (l := (List.map (Value.int .i64) O).drop (m + 1)) (by simp)]
          rfl
        refine rnA [(58, .ret (.t (.c (.s xX)))), (59, .spec ⟨.tup [.c (iT (-1)), .c (iT 0)], [], [(1, some (.ab (cl 4 ((i : Nat) + 1) ((O.erase a ++ [a]).map gX))))], []⟩), (62, .dec true), (65, .dec true), (88, .dec true), (96, .dec false)] rfl ?_ ?_
        · (repeat' (first | exact trivial | exact rfl | exact xfit0 | exact fun _ => xfit0 | first | exact hP _ _ rfl | exact d0 | exact m1 | exact m2 | exact m3 | exact m4 | exact m5 | exact m6 | exact m7 | exact m8 | exact m9 | exact n1 | exact n2 | exact n3 | exact o1 | exact o2 | decide | refine And.intro ?_ ?_))
        · refine roundEnd ⟨(i + 1, O.erase a ++ [a]), by omega, by omega, hO.erase hat hmem⟩ [(2, 7)] (by show xs.length - (i + 1) < xs.length - i; omega) (by (repeat' (first | exact trivial | exact rfl | exact w2 | exact fun _ => w2 | refine And.intro ?_ ?_))) ?_ rfl
          (repeat' (first | exact trivial | exact rfl | exact e6 | exact fun _ => e6 | exact e5 | refine And.intro ?_ ?_))
  · refine rn [] rfl (by repeat' (first | exact trivial | exact rfl | refine And.intro ?_ ?_)) (roundExit rfl ?_)
    refine rnA [] rfl (by repeat' (first | exact trivial | exact rfl | refine And.intro ?_ ?_)) ?_
    exact ret0 tysOk rfl (by repeat' (first | exact trivial | exact rfl | refine And.intro ?_ ?_)) rfl
theorem cacheOldest_true (xs : List Int) (A1 : Option Addr) (c1 : Nat) (w : World) (zl : xs.length ≤ 100000000000000) (h1 : Vc.Rds w A1 xs.length c1 1 (ivs xs)) :
    Calls Try.prog 3 #[.slice A1 xs.length c1] w fun e w' => e = .returned (.bool true) ∧ RowKit.Below w.heap.size w w' := by
  obtain ⟨e, M, v0⟩ := memr1 h1
  have := fnh_law (cacheOldest_h xs zl) rfl rfl M
  rw [show ([.c (.nm 0)] : List TV).map (TV.den e) = [e.val 0] from rfl, v0] at this
  exact this
end Cw
