/- The statement DiskOnce, by reckoning. -/
import Derived.Test.YtbbcnkoodmafdaaDisk6
namespace Cw
open Go Vc
open Go.Proofs
set_option maxRecDepth 100000
/-- An act of the statements of layer 11. -/
structure Act where
  kind : Int
  node : Int
  ep : Int
  pl : Int
  n : Int
  text : ByteArray
  raw : Bool
  wo : Int
  wb : ByteArray
  no : Int
  nb : ByteArray
def Act.cells (a : Act) : List Value := [.int .i64 a.kind, .int .i64 a.node, .int .i64 a.ep, .int .i64 a.pl, .int .i64 a.n, .string a.text, .bool a.raw, .int .i64 a.wo, .string a.wb, .int .i64 a.no, .string a.nb]
def Act.cv (a : Act) : List CV := [iT a.kind, iT a.node, iT a.ep, iT a.pl, iT a.n, .s a.text, .b a.raw, iT a.wo, .s a.wb, iT a.no, .s a.nb]
def acells (l : List Act) : List Value := (l.map Act.cells).flatten
theorem acells_length (l : List Act) : (acells l).length = l.length * 11 := by
  induction l with
  | nil => rfl
  | cons p l ih => simp only [acells, List.map_cons, List.flatten_cons, List.length_append, List.length_cons] at *; simp [Act.cells] at *; omega
theorem acells_at : ∀ (l : List Act) (i : Nat) (h : i < l.length), (acells l).drop (i * 11) = l[i].cells ++ acells (l.drop (i + 1))
  | a :: l, 0, _ => rfl
  | a :: l, i + 1, h => by
    have := acells_at l i (by simpa using h)
    rw [show (i + 1) * 11 = 11 + i * 11 by omega, show acells (a :: l) = a.cells ++ acells l from rfl, ← List.drop_drop]
    rw [show (a.cells ++ acells l).drop 11 = acells l from rfl, this]
    rfl
theorem acells_rd {l : List Act} {i : Nat} (h : i < l.length) : Vc.rowAt (acells l) ((i : Int).toNat * 11) l[i].cv := by
  have hd := acells_at l i h
  have hg : ∀ j u, (l[i].cells)[j]? = some u → (acells l)[i * 11 + j]? = some u := by
    intro j u hu
    rw [← List.getElem?_drop, hd, List.getElem?_append_left (List.getElem?_eq_some_iff.1 hu).1]
    exact hu
  rw [Int.toNat_natCast]
  exact ⟨hg 0 _ rfl, hg 1 _ rfl, hg 2 _ rfl, hg 3 _ rfl, hg 4 _ rfl, hg 5 _ rfl, hg 6 _ rfl, hg 7 _ rfl, hg 8 _ rfl, hg 9 _ rfl, hg 10 _ rfl, trivial⟩
section
variable {H : HL} {nx d b n : Nat} {S : List ByteArray} {W : List (Int × Wr)} {last : Int}
theorem wdel_at : ∀ {W : List (Int × Wr)}, (W.map Prod.fst).Pairwise (· < ·) → ∀ {j : Nat} (h : j < W.length), wdel W[j].1 W = W.eraseIdx j
  | [], _, j, h => by simp at h
  | (q, x) :: l, hp, 0, _ => by simp [wdel]
  | (q, x) :: l, hp, j + 1, h => by
    rw [List.map_cons, List.pairwise_cons] at hp
    have hj : j < l.length := by simpa using h
    have hlt := hp.1 l[j].1 (List.mem_map.2 ⟨l[j], List.getElem_mem hj, rfl⟩)
    show wdel l[j].1 ((q, x) :: l) = (q, x) :: l.eraseIdx j
    unfold wdel
    rw [if_neg (by omega), wdel_at hp.2 hj]
theorem wget_none {k : Int} : ∀ {W : List (Int × Wr)}, (∀ p ∈ W, p.1 ≠ k) → wget k W = none
  | [], _ => rfl
  | (q, x) :: l, h => by
    unfold wget
    rw [if_neg (h (q, x) (by simp)), wget_none fun p hp => h p (by simp [hp])]
theorem wdel_gone {k : Int} : ∀ {W : List (Int × Wr)}, (W.map Prod.fst).Pairwise (· < ·) → wget k (wdel k W) = none
  | [], _ => rfl
  | (q, x) :: l, hp => by
    rw [List.map_cons, List.pairwise_cons] at hp
    unfold wdel
    split
    · rename_i hq
      refine wget_none fun p hp' => ?_
      have := hp.1 p.1 (List.mem_map.2 ⟨p, hp', rfl⟩)
      omega
    · rename_i hq
      unfold wget
      rw [if_neg hq]
      exact wdel_gone hp.2
theorem waitL_all {node : Int} (h : ∀ p ∈ W, p.2.node = node) : waitL W node = W.map Prod.fst := by
  unfold waitL
  rw [List.filter_eq_self.2 fun p hp => by simp [h p hp]]
theorem waitL_none {node : Int} (h : ∀ p ∈ W, p.2.node ≠ node) : waitL W node = [] := by
  unfold waitL
  rw [List.filter_eq_nil_iff.2 fun p hp => by simpa using h p hp]
  rfl
theorem dropOk (hd : lookH H d = some (true, .ab (dP S W last b))) {k : Int} {x : Wr} (h : wget k W = some x) : FnH Try.prog 18 [.c (.nm d), .c (iT k)] H nx ⟨.t (.c (iT 0)), [], [(d, some (.ab (dP S (wdel k W) last b)))], []⟩ := by
  have := dropA (nx := nx) hd k
  rwa [show drE W k = 0 by simp [drE, h]] at this
theorem dropNo (hd : lookH H d = some (true, .ab (dP S W last b))) {k : Int} (h : wget k W = none) : FnH Try.prog 18 [.c (.nm d), .c (iT k)] H nx ⟨.t (.c (iT 5)), [], [(d, some (.ab (dP S W last b)))], []⟩ := by
  have := dropA (nx := nx) hd k
  rwa [show drE W k = 5 by simp [drE, h], wdel_none h] at this
theorem applyOk (hd : lookH H d = some (true, .ab (dP S W last b))) (hh : DOk n S W last) {k : Int} {x : Wr} (h : wget k W = some x) : FnH Try.prog 16 [.c (.nm d), .c (iT k)] H nx ⟨.tup [.c (.b (apB S W k)), .c (iT 0)], [], [(d, some (.ab (dP (apS S W k) (wdel k W) last b)))], []⟩ := by
  have := applyD (nx := nx) hd hh k
  rwa [show drE W k = 0 by simp [drE, h]] at this
theorem applyNo (hd : lookH H d = some (true, .ab (dP S W last b))) (hh : DOk n S W last) {k : Int} (h : wget k W = none) : FnH Try.prog 16 [.c (.nm d), .c (iT k)] H nx ⟨.tup [.c (.b false), .c (iT 5)], [], [(d, some (.ab (dP S W last b)))], []⟩ := by
  have := applyD (nx := nx) hd hh k
  rwa [show drE W k = 5 by simp [drE, h], wdel_none h, show apB S W k = false by simp [apB, h], show apS S W k = S by simp [apS, h]] at this
theorem waitOk (hd : lookH H d = some (true, .ab (dP S W last b))) (hh : DOk n S W last) (hz : W.length ≤ 100000) {node : Int} {l : List Int} (h : waitL W node = l) : FnH Try.prog 14 [.c (.nm d), .c (iT node)] H nx ⟨.t (.c (.nm nx)), [(true, .own 3 1 l.length (ivs l))], [(d, some (.ab (dP S W last b)))], []⟩ := by
  have := waitA (nx := nx) hd hh.key hz node
  rwa [h] at this
end
theorem emod_nat (x : Int) {n : Nat} (h : 0 < n) : ∃ k : Nat, k < n ∧ x % (n : Int) = (k : Int) := by
  have h1 := Int.emod_nonneg x (show (n : Int) ≠ 0 by omega)
  have h2 := Int.emod_lt_of_pos x (show (0 : Int) < n by omega)
  exact ⟨(x % (n : Int)).toNat, by omega, by omega⟩
theorem eraseIdx_map (W : List (Int × Wr)) (k : Nat) : (W.eraseIdx k).map Prod.fst = (W.map Prod.fst).take k ++ (W.map Prod.fst).drop (k + 1) := by
  rw [List.eraseIdx_eq_take_drop_succ, List.map_append, List.map_take, List.map_drop]
theorem eraseIdx_len {W : List (Int × Wr)} {k : Nat} (h : k < W.length) : (W.eraseIdx k).length = W.length - 1 := by
  rw [List.length_eraseIdx]; simp [h]
theorem sameI {v1 v2 : TV} {l : List Int} {H : HL} {nx : Nat} (h1 : SlR H v1 l.length 1 (ivs l)) (h2 : SlR H v2 l.length 1 (ivs l)) (z : l.length ≤ 100000000000000) : FnH Try.prog 19 [v1, v2] H nx ⟨.t (.c (.b true)), [], [], []⟩ := by
  have := sameInts_h (nx := nx) h1 h2 z
  rwa [decide_eq_true rfl] at this
theorem slr_own {H : HL} {k n m s : Nat} {b : Bool} {T : TypeId} {xs ys : List Value} (hk : lookH H k = some (b, .own T s n xs)) (hn : n = m) (hx : xs = ys) : SlR H (.c (.nm k)) m s ys := by
  subst hn hx
  exact SlR.own hk
theorem ivs_1 (l : List Int) : ∀ u ∈ ivs l, u.oneCell' = true := by
  intro u hu
  simp only [ivs, List.mem_map] at hu
  obtain ⟨x, _, rfl⟩ := hu
  rfl
set_option maxRecDepth 100000 in
set_option maxHeartbeats 8000000 in
theorem diskOnce_h (acts : List Act) (zt : ∀ a ∈ acts, a.text.size ≤ 9223372036854775807) (zl : acts.length ≤ 100000000000000) :
    FnH Try.prog 5 [.c (.nm 0)] [(0, some (false, .rd 11 acts.length (acells acts)))] 1 ⟨.t (.c (.b true)), [], [], []⟩ := by
  refine fnR (fn := Try.f5) 144 rfl rfl rfl (args' := [.c (.nm 0)]) (H' := [(0, some (false, .rd 11 acts.length (acells acts)))]) (nx' := 1) (fun e w M => ?_) rfl rfl rfl rfl fun w => ?_
  · obtain ⟨e', M', q1⟩ := slr1 (v := .c (.nm 0)) (SlR.rd rfl) e w M
    exact ⟨e', M', by simp [q1]⟩
  refine rn [(17, .spec ⟨.tup [.c (.nm 1), .c (iT 0)], [(true, .ab (dX (S0 8) [] 0))], [], []⟩), (21, .spec ⟨.t (.c (.b false)), [], [], []⟩), (27, .spec ⟨.t (.c (.b true)), [], [], []⟩)] rfl ?_ ?_
  · repeat' (first | exact trivial | exact rfl | refine And.intro ?_ ?_)
    · exact fun _ => dworks_h
    · exact nilD rfl rfl rfl rfl
    · exact newA (n := 8) (by decide) (by decide)
  refine ⟨fun h => (by cases h), fun _ => ?_⟩
  refine At.ex 1 rfl (dP_st _ _ _) fun b => ?_
  refine rn [] rfl (by repeat' (first | exact trivial | exact rfl | refine And.intro ?_ ?_)) ?_
  refine At.nil 6 3 1 rfl ?_
  refine At.loop (X := (S : List ByteArray) ×' (W : List (Int × Wr)) ×' (last : Int) ×' (i : Nat) ×' (i ≤ acts.length ∧ i ≤ 60 ∧ DOk 8 S W last ∧ (∀ p ∈ W, p.2.node = 0) ∧ last ≤ i ∧ W.length ≤ i)) 3 (fun s => acts.length - s.2.2.2.1)
    (fun s => [(0, .t (.c (.nm 0))), (3, .t (.c (.nm 1))), (5, .t (.c (iT s.2.2.1))), (6, .t (.c (.nm 2))), (7, .t (.c (iT (s.2.2.2.1 : Nat))))])
    (fun s => [(0, some (false, .rd 11 acts.length (acells acts))), (1, some (true, .ab (dP s.1 s.2.1 s.2.2.1 b))), (2, some (true, .own 3 1 s.2.1.length (ivs (s.2.1.map Prod.fst))))])
    ⟨S0 8, [], 0, 0, by omega, by omega, DOk.new (by decide), by simp, by simp, by simp⟩ [] (fun k => wf rfl rfl) (by repeat' (first | exact trivial | exact rfl | refine And.intro ?_ ?_)) (by repeat' (first | exact trivial | exact rfl | refine And.intro ?_ ?_)) rfl fun s => ?_
  obtain ⟨S, W, last, i, hi1, hi2, hD, hn, hl, hwl⟩ := s
  have w3 : IntKind.i64.wrap ((i : Int) + 1) = ((i + 1 : Nat) : Int) := by rw [wrap_sm (by omega) (by omega)]; omega
  refine rn [] rfl (by repeat' (first | exact trivial | exact rfl | refine And.intro ?_ ?_)) ?_
  refine ⟨fun h => ?_, fun h => ?_⟩
  · obtain ⟨q1, q2⟩ := Bool.and_eq_true_iff.1 h
    have hlt : i < acts.length := by have : (i : Int) < (acts.length : Int) := of_decide_eq_true q1; omega
    have hlt6 : i < 60 := by have : (i : Int) < 60 := of_decide_eq_true q2; omega
    clear h q1 q2
    have e1 := acells_rd hlt
    have ht := zt _ (List.getElem_mem hlt)
    generalize acts[i] = a at *
    have b0 : (0 : Int) ≤ (i : Int) := by omega
    have b1 : (i : Int) < (acts.length : Int) := by omega
    refine rn [(43, .ld a.cv), (46, .ret (.t (.c (iT (a.kind % 2)))))] rfl (by (repeat' (first | exact trivial | exact rfl | exact e1 | exact fun _ => e1 | first | exact amV _ 2 (by decide) (by decide) | exact b0 | exact b1 | decide | refine And.intro ?_ ?_))) ?_
    refine ⟨fun h => ?_, fun h => ?_⟩
    · clear h
      have z1 := fit_size a.text
      have hin : inS 8 (a.pl % 8) = true := inS_iff.2 ⟨by omega, by omega⟩
      have he := isuE_ok (node := 0) (ep := 0) hD (by decide) hin z1 (by omega)
      cases hp : psD (s1 S) 0 0 with
      | false =>
        rw [hp] at he
        refine rn [(57, .ret (.t (.c (iT (a.pl % 8))))), (60, .ret (.t (.c (.s (fit a.text))))), (61, .spec ⟨.tup [.c (iT 0), .c (iT 110)], [], [(1, some (.ab (dP S W last b)))], []⟩), (65, .dec true)] rfl ?_ ?_
        · (repeat' (first | exact trivial | exact rfl | exact fit0 a.text ht | exact fun _ => fit0 a.text ht | first | exact amV _ 8 (by decide) (by decide) | exact issueNo rfl hD (by omega) he (by decide) | decide | refine And.intro ?_ ?_))
        · exact roundEnd ⟨S, W, last, i + 1, by omega, by omega, hD, hn, by omega, by omega⟩ [] (by show acts.length - (i + 1) < acts.length - i; omega) (by (repeat' (first | exact trivial | exact rfl | exact w3 | exact fun _ => w3 | refine And.intro ?_ ?_))) (by repeat' (first | exact trivial | exact rfl | refine And.intro ?_ ?_)) rfl
      | true =>
        rw [hp] at he
        have he : isuE S W 0 0 (a.pl % 8) (fit a.text) = 0 := he
        have hD' := hD.isu 0 0 (a.pl % 8) (fit a.text)
        rw [isuW, isuL, if_pos he, if_pos he] at hD'
        have d1 : decide (last + 1 ≤ last) = false := decide_eq_false (by omega)
        have m1 : W.length + 1 ≤ maxLen := by simp [maxLen]; omega
        have m2 : (W.length + 1) * 8 ≤ 140737488355328 := by omega
        refine rn [(57, .ret (.t (.c (iT (a.pl % 8))))), (60, .ret (.t (.c (.s (fit a.text))))), (61, .spec ⟨.tup [.c (iT (last + 1)), .c (iT 0)], [], [(1, some (.ab (dP S (W ++ [(last + 1, ⟨0, 0, a.pl % 8, fit a.text⟩)]) (last + 1) b)))], []⟩), (65, .dec false), (68, .dec false), (72, .dec false)] rfl ?_ ?_
        · (repeat' (first | exact trivial | exact rfl | exact fit0 a.text ht | exact fun _ => fit0 a.text ht | first | exact amV _ 8 (by decide) (by decide) | exact issueOk rfl hD (by omega) he | exact d1 | exact m1 | exact m2 | decide | refine And.intro ?_ ?_))
        · refine roundEnd ⟨S, W ++ [(last + 1, ⟨0, 0, a.pl % 8, fit a.text⟩)], last + 1, i + 1, by omega, by omega, hD', fun p hp => ?_, by omega, by simp; omega⟩ [(2, 5)] (by show acts.length - (i + 1) < acts.length - i; omega) (by (repeat' (first | exact trivial | exact rfl | exact w3 | exact fun _ => w3 | refine And.intro ?_ ?_))) ?_ rfl
          · rcases List.mem_append.1 hp with hp | hp
            · exact hn p hp
            · rw [List.mem_singleton.1 hp]
          · repeat' (first | exact trivial | exact rfl | refine And.intro ?_ ?_)
            · simp
            · rw [List.map_append, ivsApp, app_eq]; rfl
    · have h0 : W.length ≠ 0 := fun e => by
        have : ((a.kind % 2 == 0) || (((W.length : Nat) : Int) == 0)) = true := by rw [e]; simp
        rw [show ((a.kind % 2 == 0) || (((W.length : Nat) : Int) == 0)) = false from h] at this
        cases this
      clear h
      obtain ⟨k, hk, hke⟩ := emod_nat a.n (n := W.length) (by omega)
      have hA := amV a.n (W.length : Nat) (by omega) (by omega)
      rw [hke] at hA
      have hlk := wget_at hD.key hk
      have hdl := wdel_at hD.key hk
      have hgone : wget W[k].1 (W.eraseIdx k) = none := by rw [← hdl]; exact wdel_gone hD.key
      have hel := eraseIdx_len hk
      have hmap := eraseIdx_map W k
      have hn' : ∀ p ∈ W.eraseIdx k, p.2.node = 0 := fun p hp => hn p (by rw [← hdl] at hp; exact wdel_mem hp)
      have hw0 : waitL (W.eraseIdx k) 0 = (W.eraseIdx k).map Prod.fst := waitL_all hn'
      have hw1 : waitL (W.eraseIdx k) 1 = [] := waitL_none fun p hp => by rw [hn' p hp]; decide
      have e2 : (ivs (W.map Prod.fst))[(k : Int).toNat * 1]? = some (.int .i64 W[k].1) := by
        have := ivs_at (l := W.map Prod.fst) (k := k) (by simpa using hk)
        simpa using this
      have c0 : (0 : Int) ≤ (k : Int) := by omega
      have c1 : (k : Int) < (W.length : Int) := by omega
      have c2 : (k : Int) ≤ (W.length : Int) := by omega
      have wk : IntKind.i64.wrap ((k : Int) + 1) = ((k + 1 : Nat) : Int) := by rw [wrap_sm (by omega) (by omega)]; omega
      have hml : 0 + (k : Int).toNat + (W.length - (IntKind.i64.wrap ((k : Int) + 1)).toNat) = ((W.eraseIdx k).map Prod.fst).length := by rw [wk, List.length_map, hel]; omega
      have hml2 : 0 + (k : Int).toNat + (W.length - (IntKind.i64.wrap ((k : Int) + 1)).toNat) = (W.eraseIdx k).length := by rw [hml, List.length_map]
      have hmi : app (app [] (List.take ((k : Int).toNat * 1) (List.drop 0 (ivs (W.map Prod.fst))))) (List.take ((W.length - (IntKind.i64.wrap ((k : Int) + 1)).toNat) * 1) (List.drop ((IntKind.i64.wrap ((k : Int) + 1)).toNat * 1) (ivs (W.map Prod.fst)))) = ivs ((W.eraseIdx k).map Prod.fst) := by
        rw [wk, hmap, ivsApp, app_eq, app_eq, List.nil_append, Int.toNat_natCast, Int.toNat_natCast, Nat.mul_one, Nat.mul_one, Nat.mul_one, List.drop_zero]
        congr 1
        · simp [ivs]
        · rw [List.take_of_length_le (by simp [ivs])]
          simp [ivs]
      have m1 : 0 + (k : Int).toNat + (W.length - (IntKind.i64.wrap ((k : Int) + 1)).toNat) ≤ maxLen := by rw [wk]; simp [maxLen]; omega
      have m2 : (0 + (k : Int).toNat + (W.length - (IntKind.i64.wrap ((k : Int) + 1)).toNat)) * 8 ≤ 140737488355328 := by rw [wk]; omega
      have m3 : (IntKind.i64.wrap ((k : Int) + 1)).toNat + (W.length - (IntKind.i64.wrap ((k : Int) + 1)).toNat) ≤ W.length := by rw [wk]; omega
      have m4 : (0 : Int) ≤ IntKind.i64.wrap ((k : Int) + 1) := by rw [wk]; omega
      have m5 : IntKind.i64.wrap ((k : Int) + 1) ≤ (W.length : Int) := by rw [wk]; omega
      have m6 : 0 + (k : Int).toNat ≤ maxLen := by simp [maxLen]; omega
      have m7 : (0 + (k : Int).toNat) * 8 ≤ 140737488355328 := by omega
      have m8 : 0 + (k : Int).toNat ≤ W.length := by omega
      refine rn [(82, .ret (.t (.c (iT (k : Nat)))))] rfl (by (repeat' (first | exact trivial | exact rfl | exact hA | exact fun _ => hA | refine And.intro ?_ ?_))) ?_
      refine ⟨fun h => ?_, fun h => ?_⟩
      · have hD' : DOk 8 S (W.eraseIdx k) last := by have := hD.del W[k].1; rwa [hdl] at this
        have hc1 : ∀ {H : HL} {nx : Nat}, lookH H 1 = some (true, .ab (dP S W last b)) → FnH Try.prog 18 [.c (.nm 1), .c (iT W[k].1)] H nx ⟨.t (.c (iT 0)), [], [(1, some (.ab (dP S (W.eraseIdx k) last b)))], []⟩ := fun {H} {nx} hd => by
          have := dropOk (nx := nx) hd hlk
          rwa [hdl] at this
        refine rn [(89, .ld [iT W[k].1]), (90, .spec ⟨.t (.c (iT 0)), [], [(1, some (.ab (dP S (W.eraseIdx k) last b)))], []⟩), (91, .dec false), (108, .ld [iT W[k].1]), (109, .spec ⟨.tup [.c (.b false), .c (iT 5)], [], [(1, some (.ab (dP (S) (W.eraseIdx k) last b)))], []⟩), (114, .dec false), (119, .ld [iT W[k].1]), (120, .spec ⟨.t (.c (iT 5)), [], [(1, some (.ab (dP (S) (W.eraseIdx k) last b)))], []⟩), (122, .dec false), (123, .dec true),
          (134, .spec ⟨.t (.c (.nm 7)), [(true, .own 3 1 ((W.eraseIdx k).map Prod.fst).length (ivs ((W.eraseIdx k).map Prod.fst)))], [(1, some (.ab (dP (S) (W.eraseIdx k) last b)))], []⟩), (136, .spec ⟨.t (.c (.b true)), [], [], []⟩), (138, .dec false), (140, .spec ⟨.t (.c (.nm 8)), [(true, .own 3 1 0 (ivs []))], [(1, some (.ab (dP (S) (W.eraseIdx k) last b)))], []⟩), (143, .dec false)] rfl ?_ ?_
        · repeat' (first | exact trivial | exact rfl | refine And.intro ?_ ?_)
          all_goals first | intro _ | skip
          all_goals first
            | exact hc1 rfl
            | exact applyNo rfl hD' hgone
            | exact dropNo rfl hgone
            | exact waitOk rfl hD' (by omega) hw0
            | exact waitOk rfl hD' (by omega) hw1
            | exact sameI (l := (W.eraseIdx k).map Prod.fst) (SlR.own rfl) (slr_own rfl hml hmi) (by rw [List.length_map]; omega)
            | exact ⟨e2, trivial⟩ | exact e2 | exact ⟨c0, c1⟩ | exact c0 | exact c1 | exact c2 | exact m1 | exact m2 | exact m3 | exact m4 | exact m5 | exact m6 | exact m7 | exact m8
            | exact ivs_1 _ _ | exact ivs_1 _ | rfl | decide
            | skip
        · refine roundEnd ⟨S, W.eraseIdx k, last, i + 1, by omega, by omega, hD', hn', by omega, by omega⟩ [(2, 6)] (by show acts.length - (i + 1) < acts.length - i; omega) (by (repeat' (first | exact trivial | exact rfl | exact w3 | exact fun _ => w3 | refine And.intro ?_ ?_))) ?_ rfl
          (repeat' (first | exact trivial | exact rfl | exact trivial | exact fun _ => trivial | first | exact hml2 | exact hmi | refine And.intro ?_ ?_))
      · have hD' : DOk 8 (apS S W W[k].1) (W.eraseIdx k) last := by have := hD.ap W[k].1; rwa [hdl] at this
        have hc1 : ∀ {H : HL} {nx : Nat}, lookH H 1 = some (true, .ab (dP S W last b)) → FnH Try.prog 16 [.c (.nm 1), .c (iT W[k].1)] H nx ⟨.tup [.c (.b (apB S W W[k].1)), .c (iT 0)], [], [(1, some (.ab (dP (apS S W W[k].1) (W.eraseIdx k) last b)))], []⟩ := fun {H} {nx} hd => by
          have := applyOk (nx := nx) hd hD hlk
          rwa [hdl] at this
        refine rn [(97, .ld [iT W[k].1]), (98, .spec ⟨.tup [.c (.b (apB S W W[k].1)), .c (iT 0)], [], [(1, some (.ab (dP (apS S W W[k].1) (W.eraseIdx k) last b)))], []⟩), (102, .dec false), (108, .ld [iT W[k].1]), (109, .spec ⟨.tup [.c (.b false), .c (iT 5)], [], [(1, some (.ab (dP (apS S W W[k].1) (W.eraseIdx k) last b)))], []⟩), (114, .dec false), (119, .ld [iT W[k].1]), (120, .spec ⟨.t (.c (iT 5)), [], [(1, some (.ab (dP (apS S W W[k].1) (W.eraseIdx k) last b)))], []⟩), (122, .dec false), (123, .dec true),
          (134, .spec ⟨.t (.c (.nm 7)), [(true, .own 3 1 ((W.eraseIdx k).map Prod.fst).length (ivs ((W.eraseIdx k).map Prod.fst)))], [(1, some (.ab (dP (apS S W W[k].1) (W.eraseIdx k) last b)))], []⟩), (136, .spec ⟨.t (.c (.b true)), [], [], []⟩), (138, .dec false), (140, .spec ⟨.t (.c (.nm 8)), [(true, .own 3 1 0 (ivs []))], [(1, some (.ab (dP (apS S W W[k].1) (W.eraseIdx k) last b)))], []⟩), (143, .dec false)] rfl ?_ ?_
        · repeat' (first | exact trivial | exact rfl | refine And.intro ?_ ?_)
          all_goals first | intro _ | skip
          all_goals first
            | exact hc1 rfl
            | exact applyNo rfl hD' hgone
            | exact dropNo rfl hgone
            | exact waitOk rfl hD' (by omega) hw0
            | exact waitOk rfl hD' (by omega) hw1
            | exact sameI (l := (W.eraseIdx k).map Prod.fst) (SlR.own rfl) (slr_own rfl hml hmi) (by rw [List.length_map]; omega)
            | exact ⟨e2, trivial⟩ | exact e2 | exact ⟨c0, c1⟩ | exact c0 | exact c1 | exact c2 | exact m1 | exact m2 | exact m3 | exact m4 | exact m5 | exact m6 | exact m7 | exact m8
            | exact ivs_1 _ _ | exact ivs_1 _ | rfl | decide
            | skip
        · refine roundEnd ⟨apS S W W[k].1, W.eraseIdx k, last, i + 1, by omega, by omega, hD', hn', by omega, by omega⟩ [(2, 6)] (by show acts.length - (i + 1) < acts.length - i; omega) (by (repeat' (first | exact trivial | exact rfl | exact w3 | exact fun _ => w3 | refine And.intro ?_ ?_))) ?_ rfl
          (repeat' (first | exact trivial | exact rfl | exact trivial | exact fun _ => trivial | first | exact hml2 | exact hmi | refine And.intro ?_ ?_))
  · refine rn [] rfl (by repeat' (first | exact trivial | exact rfl | refine And.intro ?_ ?_)) (roundExit rfl ?_)
    refine rnA [] rfl (by repeat' (first | exact trivial | exact rfl | refine And.intro ?_ ?_)) ?_
    exact ret0 tysOk rfl (by repeat' (first | exact trivial | exact rfl | refine And.intro ?_ ?_)) rfl
theorem diskOnce_true (acts : List Act) (A1 : Option Addr) (c1 : Nat) (w : World) (zt : ∀ a ∈ acts, a.text.size ≤ 9223372036854775807) (zl : acts.length ≤ 100000000000000) (h1 : Vc.Rds w A1 acts.length c1 11 (acells acts)) :
    Calls Try.prog 5 #[.slice A1 acts.length c1] w fun e w' => e = .returned (.bool true) ∧ RowKit.Below w.heap.size w w' := by
  obtain ⟨e, M, v0⟩ := memr1 h1
  have := fnh_law (diskOnce_h acts zt zl) rfl rfl M
  rw [show ([.c (.nm 0)] : List TV).map (TV.den e) = [e.val 0] from rfl, v0] at this
  exact this
end Cw
