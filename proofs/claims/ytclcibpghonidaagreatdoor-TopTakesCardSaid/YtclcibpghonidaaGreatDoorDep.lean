/- The package deps: what only reads, by reckoning. -/
import Derived.Test.YtclcibpghonidaaGreatDoorDepL
import Derived.Test.YtclcibpghonidaaGreatDoorFnV
import Derived.Test.YtclcibpghonidaaGreatDoorBook
import Derived.Test.YtclcibpghonidaaGreatDoorVcFld
import Derived.Test.YtclcibpghonidaaGreatDoorDelF
import Derived.Test.YtclcibpghonidaaGreatDoorSrtH
namespace Cw
open Go Vc
open Go.Proofs
set_option maxRecDepth 100000
def depC (p : Ch × Option Addr × Nat) : List Value := [.int .i64 p.1.no, .int .i64 p.1.at', .int .i64 p.1.off, .string p.1.by', .slice p.2.1 p.1.ah.length p.2.2, .int .i64 p.1.st]
def depV (p : Ch × Option Addr × Nat) : List CV := [iT p.1.no, iT p.1.at', iT p.1.off, .s p.1.by', .raw (.slice p.2.1 p.1.ah.length p.2.2), iT p.1.st]
abbrev dpc (V : List (Ch × Option Addr × Nat)) : List Value := fcs depC V
abbrev chs (V : List (Ch × Option Addr × Nat)) : List Ch := V.map Prod.fst
theorem depC_len (p : Ch × Option Addr × Nat) : (depC p).length = 6 := rfl
theorem dpc_length (V : List (Ch × Option Addr × Nat)) : (dpc V).length = V.length * 6 := fcs_length depC_len V
theorem dpc_rd {V : List (Ch × Option Addr × Nat)} {i : Nat} (h : i < V.length) : Vc.rowAt (dpc V) ((i : Int).toNat * 6) (depV V[i]) :=
  have g := fun (j : Nat) (u : Value) (hu : (depC V[i])[j]? = some u) => fcs_at (c := 6) depC_len h hu
  ⟨g 0 _ rfl, g 1 _ rfl, g 2 _ rfl, g 3 _ rfl, g 4 _ rfl, g 5 _ rfl, trivial⟩
theorem dpc_no {V : List (Ch × Option Addr × Nat)} {i : Nat} (h : i < V.length) : (dpc V)[(i : Int).toNat * 6]? = some (.int .i64 V[i].1.no) := fcs_at (c := 6) (j := 0) depC_len h rfl
theorem dpc_st {V : List (Ch × Option Addr × Nat)} {i : Nat} (h : i < V.length) : (dpc V)[(i : Int).toNat * 6 + 5]? = some (.int .i64 V[i].1.st) := fcs_at (c := 6) (j := 5) depC_len h rfl
/-- The places of a sector's changes in a state, of the first j. -/
def ofT (L : List Ch) (k s : Int) : Nat → List Int
  | 0 => []
  | j + 1 => match L[j]? with
    | none => ofT L k s j
    | some c => if (c.at' == k && c.st == s) = true then ofT L k s j ++ [(j : Int)] else ofT L k s j
theorem ofT_succ {V : List (Ch × Option Addr × Nat)} {k s : Int} {j : Nat} (h : j < V.length) : ofT (chs V) k s (j + 1) = if (V[j].1.at' == k && V[j].1.st == s) = true then ofT (chs V) k s j ++ [(j : Int)] else ofT (chs V) k s j := by
  have : (chs V)[j]? = some V[j].1 := by simp [h]
  rw [ofT, this]
theorem ofT_le (L : List Ch) (k s : Int) : ∀ j, (ofT L k s j).length ≤ j
  | 0 => Nat.le_refl _
  | j + 1 => by
    have := ofT_le L k s j
    unfold ofT
    split
    · omega
    · split
      · simp; omega
      · omega
theorem ofT_mem {L : List Ch} {k s : Int} : ∀ {j : Nat} {p : Int}, p ∈ ofT L k s j → 0 ≤ p ∧ p < (j : Int)
  | 0, p, h => by cases h
  | j + 1, p, h => by
    unfold ofT at h
    split at h
    · have := ofT_mem h; omega
    · split at h
      · rcases List.mem_append.1 h with h | h
        · have := ofT_mem h; omega
        · rw [List.mem_singleton.1 h]; omega
      · have := ofT_mem h; omega
def ofI (L : List Ch) (k s : Int) : List Int := ofT L k s L.length
def noAt (L : List Ch) (p : Int) : Int := match L[p.toNat]? with
  | some c => c.no
  | none => 0
/-- The numbers of those at places. -/
def nosP (L : List Ch) (ps : List Int) : List Int := ps.map (noAt L)
theorem noAt_eq {V : List (Ch × Option Addr × Nat)} {i : Nat} (h : i < V.length) : noAt (chs V) (i : Int) = V[i].1.no := by
  have : (chs V)[i]? = some V[i].1 := by simp [h]
  rw [noAt, Int.toNat_natCast, this]
def r2p (d l n : Nat) : Nat := if n = 0 then d else l
def r3p (d l q n : Nat) : Nat := if n = 0 then d else if n = 1 then l else q
section
variable {H : HL} {nx d l q : Nat} {b1 b2 b3 : Bool} {V : List (Ch × Option Addr × Nat)} {last : Int}
def hDp (V : List (Ch × Option Addr × Nat)) (last : Int) : HL := [(0, some (false, .cells [.nm 1, iT last] 138)), (1, some (false, .own 140 6 V.length (dpc V)))]
theorem memDp (hd : lookH H d = some (b1, .cells [.nm l, iT last] 138)) (hl : lookH H l = some (b2, .own 140 6 V.length (dpc V))) : rdsOk (r2p d l) H (hDp V last) := ⟨⟨b1, hd⟩, ⟨b2, hl⟩, trivial⟩
def hDq (V : List (Ch × Option Addr × Nat)) (last : Int) (ps : List Int) : HL := [(0, some (false, .cells [.nm 1, iT last] 138)), (1, some (false, .own 140 6 V.length (dpc V))), (2, some (false, .own 3 1 ps.length (ivs ps)))]
theorem memDq {ps : List Int} (hd : lookH H d = some (b1, .cells [.nm l, iT last] 138)) (hl : lookH H l = some (b2, .own 140 6 V.length (dpc V))) (hq : lookH H q = some (b3, .own 3 1 ps.length (ivs ps))) : rdsOk (r3p d l q) H (hDq V last ps) := ⟨⟨b1, hd⟩, ⟨b2, hl⟩, ⟨b3, hq⟩, trivial⟩
set_option maxRecDepth 100000 in
set_option maxHeartbeats 2000000 in
theorem ofU (hd : lookH H d = some (b1, .cells [.nm l, iT last] 138)) (hl : lookH H l = some (b2, .own 140 6 V.length (dpc V))) (z : V.length ≤ 1000000) (k s : Int) :
    FnH Tryz.prog 96 [.c (.p d 0), .c (iT k), .c (iT s)] H nx ⟨.t (.c (.nm nx)), [(true, .own 3 1 (ofI (chs V) k s).length (ivs (ofI (chs V) k s)))], [], []⟩ := by
  refine fnN (fn := Tryz.f96) 36 rfl rfl rfl (args' := [.c (.p 0 0), .c (iT k), .c (iT s)]) (H' := hDp V last) (nx' := 2) (fun e w M => ⟨_, mem_rd (r2p d l) (memDp hd hl) M, rfl⟩) rfl rfl rfl (inR_one _) rfl fun w => ?_
  show At _ _ _ _ _ _ [(0, some (false, .cells [.nm 1, iT last] 138)), (1, some (false, .own 140 6 V.length (dpc V)))] 2
  refine rn [] rfl (by repeat' (first | exact trivial | exact rfl | refine And.intro ?_ ?_)) ?_
  refine At.nil 7 3 1 rfl ?_
  refine At.loop (X := (j : Nat) ×' (j ≤ V.length)) 3 (fun x => V.length - x.1)
    (fun x => [(0, .t (.c (.p 0 0))), (1, .t (.c (iT k))), (2, .t (.c (iT s))), (7, .t (.c (.nm 2))), (13, .t (.c (.nm 1))), (14, .t (.c (iT (V.length : Nat)))), (15, .t (.c (iT (x.1 : Nat))))])
    (fun x => [(0, some (false, .cells [.nm 1, iT last] 138)), (1, some (false, .own 140 6 V.length (dpc V))), (2, some (true, .own 3 1 (ofT (chs V) k s x.1).length (ivs (ofT (chs V) k s x.1))))]) ⟨0, by omega⟩ [] (fun x => wf rfl rfl) (by repeat' (first | exact trivial | exact rfl | refine And.intro ?_ ?_)) (by repeat' (first | exact trivial | exact rfl | refine And.intro ?_ ?_)) rfl fun x => ?_
  obtain ⟨j, hj⟩ := x
  have w3 : IntKind.i64.wrap ((j : Int) + 1) = ((j + 1 : Nat) : Int) := by rw [wrap_sm (by omega) (by omega)]; omega
  refine rn [] rfl (by repeat' (first | exact trivial | exact rfl | refine And.intro ?_ ?_)) ?_
  refine ⟨fun h => ?_, fun h => ?_⟩
  · have hlt : j < V.length := by have : (j : Int) < (V.length : Int) := of_decide_eq_true h; omega
    clear h
    have r1 : Vc.rowAt (dpc V) ((j : Int).toNat * 6) [iT V[j].1.no, iT V[j].1.at', iT V[j].1.off, .s V[j].1.by', .raw (.slice V[j].2.1 V[j].1.ah.length V[j].2.2), iT V[j].1.st] := dpc_rd hlt
    have b0 : (0 : Int) ≤ (j : Int) := by omega
    have b1 : (j : Int) < (V.length : Int) := by omega
    have c5 : (j : Int).toNat * 6 < (dpc V).length := by rw [dpc_length]; omega
    have hsu := ofT_succ (k := k) (s := s) hlt
    have hle := ofT_le (chs V) k s j
    have m1 : (ofT (chs V) k s j).length + 1 ≤ maxLen := by simp [maxLen]; omega
    have m2 : ((ofT (chs V) k s j).length + 1) * 8 ≤ 140737488355328 := by omega
    have ob0 : ∀ h : (V[j].1.at' == k) = false, ofT (chs V) k s (j + 1) = ofT (chs V) k s j := fun h => by rw [hsu, h, Bool.false_and, if_neg (by decide)]
    cases ha : V[j].1.at' == k with
    | false =>
      have hsu := ob0 ha
      refine rn [(19, .ld [iT V[j].1.no, iT V[j].1.at', iT V[j].1.off, .s V[j].1.by', .raw (.slice V[j].2.1 V[j].1.ah.length V[j].2.2), iT V[j].1.st]), (24, .dec false), (29, .dec false)] rfl (by (repeat' (first | exact trivial | exact rfl | exact trivial | exact fun _ => trivial | first | exact r1 | exact b0 | exact b1 | exact c5 | exact ha | decide | refine And.intro ?_ ?_))) ?_
      refine roundEnd ⟨j + 1, by omega⟩ [] (by show V.length - (j + 1) < V.length - j; omega) (by (repeat' (first | exact trivial | exact rfl | exact w3 | exact fun _ => w3 | refine And.intro ?_ ?_))) ?_ rfl
      repeat' (first | exact trivial | exact rfl | refine And.intro ?_ ?_)
      · rw [hsu]
      · rw [hsu]
    | true =>
      rw [ha, Bool.true_and] at hsu
      cases hs : V[j].1.st == s with
      | true =>
        rw [hs, if_pos rfl] at hsu
        refine rn [(19, .ld [iT V[j].1.no, iT V[j].1.at', iT V[j].1.off, .s V[j].1.by', .raw (.slice V[j].2.1 V[j].1.ah.length V[j].2.2), iT V[j].1.st]), (24, .dec true), (29, .dec true)] rfl (by (repeat' (first | exact trivial | exact rfl | exact trivial | exact fun _ => trivial | first | exact r1 | exact b0 | exact b1 | exact c5 | exact ha | exact hs | exact m1 | exact m2 | decide | refine And.intro ?_ ?_))) ?_
        refine roundEnd ⟨j + 1, by omega⟩ [(2, 5)] (by show V.length - (j + 1) < V.length - j; omega) (by (repeat' (first | exact trivial | exact rfl | exact w3 | exact fun _ => w3 | refine And.intro ?_ ?_))) ?_ rfl
        repeat' (first | exact trivial | exact rfl | refine And.intro ?_ ?_)
        · rw [hsu]; simp
        · rw [hsu, app_eq]; simp [ivs]; rfl
      | false =>
        rw [hs, if_neg (by decide)] at hsu
        refine rn [(19, .ld [iT V[j].1.no, iT V[j].1.at', iT V[j].1.off, .s V[j].1.by', .raw (.slice V[j].2.1 V[j].1.ah.length V[j].2.2), iT V[j].1.st]), (24, .dec true), (29, .dec false)] rfl (by (repeat' (first | exact trivial | exact rfl | exact trivial | exact fun _ => trivial | first | exact r1 | exact b0 | exact b1 | exact c5 | exact ha | exact hs | decide | refine And.intro ?_ ?_))) ?_
        refine roundEnd ⟨j + 1, by omega⟩ [] (by show V.length - (j + 1) < V.length - j; omega) (by (repeat' (first | exact trivial | exact rfl | exact w3 | exact fun _ => w3 | refine And.intro ?_ ?_))) ?_ rfl
        repeat' (first | exact trivial | exact rfl | refine And.intro ?_ ?_)
        · rw [hsu]
        · rw [hsu]
  · have hlt : j = V.length := by have : ¬ (j : Int) < (V.length : Int) := of_decide_eq_false h; omega
    have hw : ofT (chs V) k s j = ofI (chs V) k s := by rw [ofI, hlt]; simp
    refine rn [] rfl (by repeat' (first | exact trivial | exact rfl | refine And.intro ?_ ?_)) (roundExit rfl ?_)
    refine rnA [] rfl (by repeat' (first | exact trivial | exact rfl | refine And.intro ?_ ?_)) ?_
    exact retN tysOk [(nx, 2)] rfl (by simp only [retS, SV.eqs, eqsT, TV.eqs, CV.eqs, ren_one]; repeat' (first | exact trivial | exact rfl | refine And.intro ?_ ?_)) (by simp only [newsH, subH, ren_one]; (repeat' (first | exact trivial | exact rfl | exact trivial | exact fun _ => trivial | first | exact congrArg List.length hw | exact congrArg ivs hw | refine And.intro ?_ ?_))) (by simp [injK, keysH, newsH, inL]) rfl
set_option maxRecDepth 100000 in
set_option maxHeartbeats 2000000 in
theorem numbersU {ps : List Int} (hd : lookH H d = some (b1, .cells [.nm l, iT last] 138)) (hl : lookH H l = some (b2, .own 140 6 V.length (dpc V))) (hq : lookH H q = some (b3, .own 3 1 ps.length (ivs ps))) (z : ps.length ≤ 1000000) (hp : ∀ p ∈ ps, 0 ≤ p ∧ p < (V.length : Int)) :
    FnH Tryz.prog 102 [.c (.p d 0), .c (.nm q)] H nx ⟨.t (.c (.nm nx)), [(true, .own 3 1 (nosP (chs V) ps).length (ivs (nosP (chs V) ps)))], [], []⟩ := by
  refine fnN (fn := Tryz.f102) 27 rfl rfl rfl (args' := [.c (.p 0 0), .c (.nm 2)]) (H' := hDq V last ps) (nx' := 3) (fun e w M => ⟨_, mem_rd (r3p d l q) (memDq hd hl hq) M, rfl⟩) rfl rfl rfl (inR_one _) rfl fun w => ?_
  show At _ _ _ _ _ _ [(0, some (false, .cells [.nm 1, iT last] 138)), (1, some (false, .own 140 6 V.length (dpc V))), (2, some (false, .own 3 1 ps.length (ivs ps)))] 3
  refine rn [] rfl (by repeat' (first | exact trivial | exact rfl | refine And.intro ?_ ?_)) ?_
  refine At.nil 5 3 1 rfl ?_
  refine At.loop (X := (j : Nat) ×' (j ≤ ps.length)) 4 (fun x => ps.length - x.1)
    (fun x => [(0, .t (.c (.p 0 0))), (5, .t (.c (.nm 3))), (8, .t (.c (.nm 2))), (9, .t (.c (iT (ps.length : Nat)))), (10, .t (.c (iT (x.1 : Nat))))])
    (fun x => [(0, some (false, .cells [.nm 1, iT last] 138)), (1, some (false, .own 140 6 V.length (dpc V))), (2, some (false, .own 3 1 ps.length (ivs ps))), (3, some (true, .own 3 1 (nosP (chs V) (ps.take x.1)).length (ivs (nosP (chs V) (ps.take x.1)))))]) ⟨0, by omega⟩ [] (fun x => wf rfl rfl) (by repeat' (first | exact trivial | exact rfl | refine And.intro ?_ ?_)) (by repeat' (first | exact trivial | exact rfl | refine And.intro ?_ ?_)) rfl fun x => ?_
  obtain ⟨j, hj⟩ := x
  have w3 : IntKind.i64.wrap ((j : Int) + 1) = ((j + 1 : Nat) : Int) := by rw [wrap_sm (by omega) (by omega)]; omega
  refine rn [] rfl (by repeat' (first | exact trivial | exact rfl | refine And.intro ?_ ?_)) ?_
  refine ⟨fun h => ?_, fun h => ?_⟩
  · have hlt : j < ps.length := by have : (j : Int) < (ps.length : Int) := of_decide_eq_true h; omega
    clear h
    obtain ⟨p0, p1⟩ := hp ps[j] (List.getElem_mem hlt)
    have e1 : (ivs ps)[(j : Int).toNat * 1]? = some (.int .i64 ps[j]) := by simpa using ivs_at hlt
    have hsu : nosP (chs V) (ps.take (j + 1)) = nosP (chs V) (ps.take j) ++ [noAt (chs V) ps[j]] := by rw [List.take_succ_eq_append_getElem hlt, nosP, nosP, List.map_append]; rfl
    obtain ⟨i, hi⟩ : ∃ i : Nat, ps[j] = (i : Int) := ⟨ps[j].toNat, by omega⟩
    rw [hi] at e1 hsu p0 p1
    have hiv : i < V.length := by omega
    rw [noAt_eq hiv] at hsu
    have r1 := dpc_no hiv
    have b0 : (0 : Int) ≤ (j : Int) := by omega
    have b1 : (j : Int) < (ps.length : Int) := by omega
    have c5 : (i : Int).toNat * 6 < (dpc V).length := by rw [dpc_length]; omega
    have hnl : (nosP (chs V) (ps.take j)).length = j := by rw [nosP, List.length_map, List.length_take]; omega
    have m1 : (nosP (chs V) (ps.take j)).length + 1 ≤ maxLen := by rw [hnl]; simp [maxLen]; omega
    have m2 : ((nosP (chs V) (ps.take j)).length + 1) * 8 ≤ 140737488355328 := by rw [hnl]; omega
    refine rn [(13, .ld [iT (i : Nat)]), (22, .ld [iT V[i].1.no])] rfl (by (repeat' (first | exact trivial | exact rfl | exact trivial | exact fun _ => trivial | first | exact e1 | exact ⟨e1, trivial⟩ | exact r1 | exact ⟨r1, trivial⟩ | exact b0 | exact b1 | exact p0 | exact p1 | exact c5 | exact m1 | exact m2 | decide | refine And.intro ?_ ?_))) ?_
    refine roundEnd ⟨j + 1, by omega⟩ [(3, 5)] (by show ps.length - (j + 1) < ps.length - j; omega) (by (repeat' (first | exact trivial | exact rfl | exact w3 | exact fun _ => w3 | refine And.intro ?_ ?_))) ?_ rfl
    repeat' (first | exact trivial | exact rfl | refine And.intro ?_ ?_)
    · rw [hsu]; simp
    · rw [hsu, app_eq]; simp [ivs]; rfl
  · have hlt : j = ps.length := by have : ¬ (j : Int) < (ps.length : Int) := of_decide_eq_false h; omega
    have hw : nosP (chs V) (ps.take j) = nosP (chs V) ps := by rw [hlt, List.take_length]
    refine rn [] rfl (by repeat' (first | exact trivial | exact rfl | refine And.intro ?_ ?_)) (roundExit rfl ?_)
    refine rnA [] rfl (by repeat' (first | exact trivial | exact rfl | refine And.intro ?_ ?_)) ?_
    exact retN tysOk [(nx, 3)] rfl (by simp only [retS, SV.eqs, eqsT, TV.eqs, CV.eqs, ren_one]; repeat' (first | exact trivial | exact rfl | refine And.intro ?_ ?_)) (by simp only [newsH, subH, ren_one]; (repeat' (first | exact trivial | exact rfl | exact trivial | exact fun _ => trivial | first | exact congrArg List.length hw | exact congrArg ivs hw | refine And.intro ?_ ?_))) (by simp [injK, keysH, newsH, inL]) rfl
/-- The patches of those at places. -/
def chP (L : List Ch) (p : Int) : Pt := match L[p.toNat]? with
  | some c => (c.off, c.by')
  | none => (0, ⟨#[]⟩)
theorem chP_eq {V : List (Ch × Option Addr × Nat)} {i : Nat} (h : i < V.length) : chP (chs V) (i : Int) = (V[i].1.off, V[i].1.by') := by
  have : (chs V)[i]? = some V[i].1 := by simp [h]
  rw [chP, Int.toNat_natCast, this]
theorem pcells_app (a : List Pt) (o : Int) (t : ByteArray) : pcells (a ++ [(o, t)]) = pcells a ++ [Value.int .i64 o, Value.string t] := by simp [pcells]
set_option maxRecDepth 100000 in
set_option maxHeartbeats 2000000 in
theorem patchedU {ps : List Int} (hd : lookH H d = some (b1, .cells [.nm l, iT last] 138)) (hl : lookH H l = some (b2, .own 140 6 V.length (dpc V))) (hq : lookH H q = some (b3, .own 3 1 ps.length (ivs ps))) (z : ps.length ≤ 1000000) (hp : ∀ p ∈ ps, 0 ≤ p ∧ p < (V.length : Int)) (hb : ∀ x ∈ V, x.1.by'.size ≤ 9223372036854775807) (s : ByteArray) (hs : s.size ≤ 9223372036854775807) :
    FnH Tryz.prog 130 [.c (.p d 0), .c (.s s), .c (.nm q)] H nx ⟨.tup [.c (.s (pt s (ps.map (chP (chs V))))), .c (iT (pte s (ps.map (chP (chs V)))))], [], [], []⟩ := by
  refine fnR (fn := Tryz.f130) 34 rfl rfl rfl (args' := [.c (.p 0 0), .c (.s s), .c (.nm 2)]) (H' := hDq V last ps) (nx' := 3) (fun e w M => ⟨_, mem_rd (r3p d l q) (memDq hd hl hq) M, rfl⟩) rfl rfl rfl rfl fun w => ?_
  show At _ _ _ _ _ _ [(0, some (false, .cells [.nm 1, iT last] 138)), (1, some (false, .own 140 6 V.length (dpc V))), (2, some (false, .own 3 1 ps.length (ivs ps)))] 3
  refine rn [] rfl (by repeat' (first | exact trivial | exact rfl | refine And.intro ?_ ?_)) ?_
  refine At.nil 8 86 2 rfl ?_
  refine At.loop (X := (j : Nat) ×' (j ≤ ps.length)) 4 (fun x => ps.length - x.1)
    (fun x => [(0, .t (.c (.p 0 0))), (1, .t (.c (.s s))), (8, .t (.c (.nm 3))), (11, .t (.c (.nm 2))), (12, .t (.c (iT (ps.length : Nat)))), (13, .t (.c (iT (x.1 : Nat))))])
    (fun x => [(0, some (false, .cells [.nm 1, iT last] 138)), (1, some (false, .own 140 6 V.length (dpc V))), (2, some (false, .own 3 1 ps.length (ivs ps))), (3, some (true, .own 86 2 x.1 (pcells ((ps.take x.1).map (chP (chs V))))))]) ⟨0, by omega⟩ [] (fun x => wf rfl rfl) (by repeat' (first | exact trivial | exact rfl | refine And.intro ?_ ?_)) (by repeat' (first | exact trivial | exact rfl | refine And.intro ?_ ?_)) rfl fun x => ?_
  obtain ⟨j, hj⟩ := x
  have w3 : IntKind.i64.wrap ((j : Int) + 1) = ((j + 1 : Nat) : Int) := by rw [wrap_sm (by omega) (by omega)]; omega
  refine rn [] rfl (by repeat' (first | exact trivial | exact rfl | refine And.intro ?_ ?_)) ?_
  refine ⟨fun h => ?_, fun h => ?_⟩
  · have hlt : j < ps.length := by have : (j : Int) < (ps.length : Int) := of_decide_eq_true h; omega
    clear h
    obtain ⟨p0, p1⟩ := hp ps[j] (List.getElem_mem hlt)
    have e1 : (ivs ps)[(j : Int).toNat * 1]? = some (.int .i64 ps[j]) := by simpa using ivs_at hlt
    have hsu : (ps.take (j + 1)).map (chP (chs V)) = (ps.take j).map (chP (chs V)) ++ [chP (chs V) ps[j]] := by rw [List.take_succ_eq_append_getElem hlt, List.map_append]; rfl
    obtain ⟨i, hi⟩ : ∃ i : Nat, ps[j] = (i : Int) := ⟨ps[j].toNat, by omega⟩
    rw [hi] at e1 hsu p0 p1
    have hiv : i < V.length := by omega
    rw [chP_eq hiv] at hsu
    have r1 : Vc.rowAt (dpc V) ((i : Int).toNat * 6 + 2) [iT V[i].1.off, .s V[i].1.by'] := ⟨fcs_at (c := 6) (j := 2) depC_len hiv rfl, fcs_at (c := 6) (j := 3) depC_len hiv rfl, trivial⟩
    have b0 : (0 : Int) ≤ (j : Int) := by omega
    have b1 : (j : Int) < (ps.length : Int) := by omega
    have c5 : (i : Int).toNat * 6 < (dpc V).length := by rw [dpc_length]; omega
    have m1 : j + 1 ≤ maxLen := by simp [maxLen]; omega
    have m2 : (j + 1) * 24 ≤ 140737488355328 := by omega
    refine rn [(16, .ld [iT (i : Nat)]), (25, .ld [iT V[i].1.off, .s V[i].1.by'])] rfl (by (repeat' (first | exact trivial | exact rfl | exact trivial | exact fun _ => trivial | first | exact e1 | exact ⟨e1, trivial⟩ | exact r1 | exact r1.1 | exact r1.2.1 | exact b0 | exact b1 | exact p0 | exact p1 | exact c5 | exact m1 | exact m2 | decide | refine And.intro ?_ ?_))) ?_
    refine roundEnd ⟨j + 1, by omega⟩ [(3, 5)] (by show ps.length - (j + 1) < ps.length - j; omega) (by (repeat' (first | exact trivial | exact rfl | exact w3 | exact fun _ => w3 | refine And.intro ?_ ?_))) ?_ rfl
    repeat' (first | exact trivial | exact rfl | refine And.intro ?_ ?_)
    rw [hsu, pcells_app, app_eq]
    rfl
  · have hlt : j = ps.length := by have : ¬ (j : Int) < (ps.length : Int) := of_decide_eq_false h; omega
    have hw : (ps.take j).map (chP (chs V)) = ps.map (chP (chs V)) := by rw [hlt, List.take_length]
    have hpt : ∀ p ∈ ps.map (chP (chs V)), p.2.size ≤ 9223372036854775807 := fun p hp' => by
      obtain ⟨x, hx, rfl⟩ := List.mem_map.1 hp'
      obtain ⟨q0, q1⟩ := hp x hx
      obtain ⟨i, rfl⟩ : ∃ i : Nat, x = (i : Int) := ⟨x.toNat, by omega⟩
      rw [chP_eq (by omega)]
      exact hb _ (List.getElem_mem _)
    refine rn [] rfl (by repeat' (first | exact trivial | exact rfl | refine And.intro ?_ ?_)) (roundExit rfl ?_)
    refine rnA [(31, .spec ⟨.tup [.c (.s (pt s (ps.map (chP (chs V))))), .c (iT (pte s (ps.map (chP (chs V)))))], [], [], []⟩)] rfl (by (repeat' (first | exact trivial | exact rfl | exact trivial | exact fun _ => trivial | first | exact patched_own s _ hpt hs rfl (by rw [hw]) | decide | refine And.intro ?_ ?_))) ?_
    exact ret0 tysOk rfl (by repeat' (first | exact trivial | exact rfl | refine And.intro ?_ ?_)) rfl
end
end Cw
namespace Cw
open Go Vc
open Go.Proofs
set_option maxRecDepth 100000
/-- The place of the first one whose number is no less. -/
def bsI (V : List (Ch × Option Addr × Nat)) (n : Int) : Nat := V.findIdx fun x => decide (n ≤ x.1.no)
def srtV (V : List (Ch × Option Addr × Nat)) : Prop := ∀ i j (hi : i < V.length) (hj : j < V.length), i < j → V[i].1.no < V[j].1.no
def bsB (V : List (Ch × Option Addr × Nat)) (n : Int) : Bool := match V[bsI V n]? with
  | some x => x.1.no == n
  | none => false
theorem bs_lt {V : List (Ch × Option Addr × Nat)} {n : Int} (hs : srtV V) {h : Nat} (hh : h < V.length) : V[h].1.no < n ↔ h < bsI V n := by
  constructor
  · intro h1
    rcases Nat.lt_or_ge h (bsI V n) with h2 | h2
    · exact h2
    · exfalso
      have hi : bsI V n < V.length := by omega
      have h3 := List.findIdx_getElem (p := fun x : Ch × Option Addr × Nat => decide (n ≤ x.1.no)) (xs := V) (w := hi)
      have h4 : n ≤ V[bsI V n].1.no := of_decide_eq_true h3
      rcases Nat.lt_or_eq_of_le h2 with h5 | h5
      · have := hs _ _ hi hh h5; omega
      · simp only [h5] at h4; omega
  · intro h1
    have := List.not_of_lt_findIdx (p := fun x : Ch × Option Addr × Nat => decide (n ≤ x.1.no)) (xs := V) (i := h) h1
    simpa using this
theorem bsI_le (V : List (Ch × Option Addr × Nat)) (n : Int) : bsI V n ≤ V.length := List.findIdx_le_length
theorem stOf_bs {V : List (Ch × Option Addr × Nat)} {n : Int} (hs : srtV V) : stOf n (chs V) = if bsB V n then (match V[bsI V n]? with | some x => x.1.st | none => 0) else 0 := by
  have hnd : ((chs V).map Ch.no).Nodup := by
    rw [List.nodup_iff_pairwise_ne, List.pairwise_iff_getElem]
    intro i j hi hj hij
    simp only [List.getElem_map]
    have := hs i j (by simpa using hi) (by simpa using hj) hij
    omega
  by_cases hb : bsB V n = true
  · rw [if_pos hb]
    unfold bsB at hb
    rcases Nat.lt_or_ge (bsI V n) V.length with h | h
    · rw [List.getElem?_eq_getElem h] at hb ⊢
      have e : V[bsI V n].1.no = n := by simpa using hb
      have := stOf_at hnd (i := bsI V n) (by simpa using h)
      simp only [chs, List.getElem_map] at this
      rw [e] at this
      exact this
    · rw [List.getElem?_eq_none h] at hb
      cases hb
  · rw [if_neg hb]
    refine stOf_none fun c hc hcn => hb ?_
    obtain ⟨x, hx, rfl⟩ := List.mem_map.1 hc
    obtain ⟨i, hi, rfl⟩ := List.mem_iff_getElem.1 hx
    have h1 : bsI V n = i := by
      have h2 : ¬ i < bsI V n := fun h => by have := (bs_lt hs hi).2 h; omega
      rcases Nat.lt_or_ge (bsI V n) i with h3 | h3
      · have hb' : bsI V n < V.length := by omega
        have h4 := hs _ _ hb' hi h3
        have := (bs_lt (n := n) hs hb').1 (by omega)
        omega
      · omega
    unfold bsB
    rw [h1, List.getElem?_eq_getElem hi]
    simpa using hcn
theorem cmp0 (p : Ch × Option Addr × Nat) (n : Int) (h0 : 0 ≤ p.1.no ∧ p.1.no ≤ 1000000) (h1 : 0 ≤ n ∧ n ≤ 1000000) : Fn0 Tryz.prog 158 [.agg [iT p.1.no, iT p.1.at', iT p.1.off, .s p.1.by', .raw (.slice p.2.1 p.1.ah.length p.2.2), iT p.1.st], .c (iT n)] (.t (.c (iT (p.1.no - n)))) := by
  refine fn0 (fn := Tryz.f158) 9 rfl rfl rfl rfl rfl fun w => ?_
  have w1 : IntKind.i64.wrap (p.1.no - n) = p.1.no - n := wrap_sm (by omega) (by omega)
  refine rn [] rfl (by repeat' (first | exact trivial | exact rfl | refine And.intro ?_ ?_)) ?_
  exact ret0 tysOk rfl (by (repeat' (first | exact trivial | exact rfl | exact w1 | exact fun _ => w1 | refine And.intro ?_ ?_))) rfl
section
variable {H : HL} {nx d l : Nat} {b1 b2 : Bool} {V : List (Ch × Option Addr × Nat)} {last : Int}
set_option maxRecDepth 100000 in
set_option maxHeartbeats 2000000 in
theorem bsU {n : Int} (hl : lookH H l = some (b2, .own 140 6 V.length (dpc V))) (z : V.length ≤ 1000000) (hs : srtV V) (h0 : ∀ x ∈ V, 0 ≤ x.1.no ∧ x.1.no ≤ 1000000) (h1 : 0 ≤ n ∧ n ≤ 1000000) :
    FnH Tryz.prog 157 [.c (.nm l), .c (iT n), .c (.fn (.func 158) [])] H nx ⟨.tup [.c (iT (bsI V n : Nat)), .c (.b (bsB V n))], [], [], []⟩ := by
  refine fnR (fn := Tryz.f157) 49 rfl rfl rfl (args' := [.c (.nm 0), .c (iT n), .c (.fn (.func 158) [])]) (H' := [(0, some (false, .own 140 6 V.length (dpc V)))]) (nx' := 1) (fun e w M => ⟨_, mem_one hl M (by repeat' (first | exact trivial | exact rfl | refine And.intro ?_ ?_)), rfl⟩) rfl rfl rfl rfl fun w => ?_
  refine rn [] rfl (by repeat' (first | exact trivial | exact rfl | refine And.intro ?_ ?_)) ?_
  refine At.loop (X := (x : Nat × Nat) ×' (x.1 ≤ bsI V n ∧ bsI V n ≤ x.2 ∧ x.2 ≤ V.length)) 1 (fun x => x.1.2 - x.1.1)
    (fun x => [(0, .t (.c (.nm 0))), (1, .t (.c (iT n))), (2, .t (.c (.fn (.func 158) []))), (8, .t (.c (iT (V.length : Nat)))), (9, .t (.c (iT (x.1.1 : Nat)))), (10, .t (.c (iT (x.1.2 : Nat))))])
    (fun x => [(0, some (false, .own 140 6 V.length (dpc V)))]) ⟨(0, V.length), by simp, bsI_le V n, by simp⟩ [] (fun x => wf rfl rfl) (by repeat' (first | exact trivial | exact rfl | refine And.intro ?_ ?_)) (by repeat' (first | exact trivial | exact rfl | refine And.intro ?_ ?_)) rfl fun x => ?_
  obtain ⟨⟨lo, hi⟩, q1, q2, q3⟩ := x
  simp only at q1 q2 q3
  refine rn [] rfl (by repeat' (first | exact trivial | exact rfl | refine And.intro ?_ ?_)) ?_
  refine ⟨fun h => ?_, fun h => ?_⟩
  · have hlt : lo < hi := by have : (lo : Int) < (hi : Int) := of_decide_eq_true h; omega
    clear h
    obtain ⟨m, hm⟩ : ∃ m, m = (lo + hi) / 2 := ⟨_, rfl⟩
    have hm1 : lo ≤ m ∧ m < hi := by omega
    have hmv : m < V.length := by omega
    obtain ⟨E, hE⟩ : ∃ E, E = IntKind.i64.wrap ((IntKind.u64.wrap (IntKind.i64.wrap ((lo : Int) + (hi : Int)))).fdiv (2 ^ min (1 : Int).toNat IntKind.u64.bits)) := ⟨_, rfl⟩
    have e1 : E = (m : Int) := by
      rw [hE, wrap_sm (x := (lo : Int) + (hi : Int)) (by omega) (by omega)]
      have u1 : IntKind.u64.wrap ((lo : Int) + (hi : Int)) = (lo : Int) + (hi : Int) := by
        simp only [IntKind.wrap, IntKind.bits, IntKind.signed, Bool.false_and, Bool.false_eq_true, if_false]
        omega
      rw [u1, show (2 : Int) ^ min (1 : Int).toNat IntKind.u64.bits = 2 from rfl, Int.fdiv_eq_ediv_of_nonneg _ (by decide), wrap_sm (by omega) (by omega)]
      omega
    have r1 : Vc.rowAt (dpc V) (E.toNat * 6) [iT V[m].1.no, iT V[m].1.at', iT V[m].1.off, .s V[m].1.by', .raw (.slice V[m].2.1 V[m].1.ah.length V[m].2.2), iT V[m].1.st] := by rw [e1]; exact dpc_rd hmv
    have f0 : 0 ≤ E := by omega
    have f1 : E < (V.length : Int) := by omega
    have f2 : E.toNat * 6 < (dpc V).length := by rw [dpc_length, e1, Int.toNat_natCast]; omega
    have hc := cmp0 V[m] n (h0 _ (List.getElem_mem hmv)) h1
    have hb := bs_lt (n := n) hs hmv
    have w3 : IntKind.i64.wrap (E + 1) = ((m + 1 : Nat) : Int) := by rw [e1, wrap_sm (by omega) (by omega)]; omega
    subst hE
    refine rn [(28, .ld [iT V[m].1.no, iT V[m].1.at', iT V[m].1.off, .s V[m].1.by', .raw (.slice V[m].2.1 V[m].1.ah.length V[m].2.2), iT V[m].1.st]), (30, .ret (.t (.c (iT (V[m].1.no - n)))))] rfl (by (repeat' (first | exact trivial | exact rfl | exact trivial | exact fun _ => trivial | first | exact hc | exact r1 | exact f0 | exact f1 | exact f2 | decide | refine And.intro ?_ ?_))) ?_
    refine ⟨fun h => ?_, fun h => ?_⟩
    · have h2 : V[m].1.no - n < 0 := of_decide_eq_true h
      have h3 := hb.1 (by omega)
      refine rn [] rfl (by repeat' (first | exact trivial | exact rfl | refine And.intro ?_ ?_)) ?_
      exact roundEnd ⟨(m + 1, hi), by show m + 1 ≤ bsI V n; omega, q2, q3⟩ [] (by show hi - (m + 1) < hi - lo; omega) (by (repeat' (first | exact trivial | exact rfl | exact w3 | exact fun _ => w3 | refine And.intro ?_ ?_))) (by repeat' (first | exact trivial | exact rfl | refine And.intro ?_ ?_)) rfl
    · have h2 : ¬ V[m].1.no - n < 0 := of_decide_eq_false h
      have h3 : ¬ m < bsI V n := fun hh => by have := hb.2 hh; omega
      refine rn [] rfl (by repeat' (first | exact trivial | exact rfl | refine And.intro ?_ ?_)) ?_
      exact roundEnd ⟨(lo, m), q1, by show bsI V n ≤ m; omega, by show m ≤ V.length; omega⟩ [] (by show m - lo < hi - lo; omega) (by (repeat' (first | exact trivial | exact rfl | exact e1 | exact fun _ => e1 | refine And.intro ?_ ?_))) (by repeat' (first | exact trivial | exact rfl | refine And.intro ?_ ?_)) rfl
  · have hle : lo = bsI V n := by have : ¬ (lo : Int) < (hi : Int) := of_decide_eq_false h; omega
    subst hle
    clear h
    refine rn [] rfl (by repeat' (first | exact trivial | exact rfl | refine And.intro ?_ ?_)) (roundExit rfl ?_)
    rcases Nat.lt_or_ge (bsI V n) V.length with hlt | hge
    · have g1 : decide (((bsI V n : Nat) : Int) < (V.length : Nat)) = true := decide_eq_true (by omega)
      have r1 : Vc.rowAt (dpc V) (((bsI V n : Nat) : Int).toNat * 6) [iT V[bsI V n].1.no, iT V[bsI V n].1.at', iT V[bsI V n].1.off, .s V[bsI V n].1.by', .raw (.slice V[bsI V n].2.1 V[bsI V n].1.ah.length V[bsI V n].2.2), iT V[bsI V n].1.st] := dpc_rd hlt
      have f0 : (0 : Int) ≤ ((bsI V n : Nat) : Int) := by omega
      have f1 : ((bsI V n : Nat) : Int) < (V.length : Int) := by omega
      have f2 : ((bsI V n : Nat) : Int).toNat * 6 < (dpc V).length := by rw [dpc_length]; omega
      have hc := cmp0 V[bsI V n] n (h0 _ (List.getElem_mem hlt)) h1
      have e2 : bsB V n = (V[bsI V n].1.no - n == 0) := by
        rw [bsB, List.getElem?_eq_getElem hlt]
        show (V[bsI V n].1.no == n) = _
        rw [Bool.eq_iff_iff, beq_iff_eq, beq_iff_eq]
        omega
      rw [e2]
      refine rnA [(39, .dec true), (44, .ld [iT V[bsI V n].1.no, iT V[bsI V n].1.at', iT V[bsI V n].1.off, .s V[bsI V n].1.by', .raw (.slice V[bsI V n].2.1 V[bsI V n].1.ah.length V[bsI V n].2.2), iT V[bsI V n].1.st]), (46, .ret (.t (.c (iT (V[bsI V n].1.no - n)))))] rfl (by (repeat' (first | exact trivial | exact rfl | exact trivial | exact fun _ => trivial | first | exact hc | exact r1 | exact f0 | exact f1 | exact f2 | exact g1 | decide | refine And.intro ?_ ?_))) ?_
      exact ret0 tysOk rfl (by repeat' (first | exact trivial | exact rfl | refine And.intro ?_ ?_)) rfl
    · have g1 : decide (((bsI V n : Nat) : Int) < (V.length : Nat)) = false := decide_eq_false (by omega)
      have e2 : bsB V n = false := by rw [bsB, List.getElem?_eq_none hge]
      rw [e2]
      refine rnA [(39, .dec false)] rfl (by (repeat' (first | exact trivial | exact rfl | exact trivial | exact fun _ => trivial | exact g1 | refine And.intro ?_ ?_))) ?_
      exact ret0 tysOk rfl (by repeat' (first | exact trivial | exact rfl | refine And.intro ?_ ?_)) rfl
set_option maxRecDepth 100000 in
set_option maxHeartbeats 2000000 in
theorem isU {n : Int} (hd : lookH H d = some (b1, .cells [.nm l, iT last] 138)) (hl : lookH H l = some (b2, .own 140 6 V.length (dpc V))) (z : V.length ≤ 1000000) (hs : srtV V) (h0 : ∀ x ∈ V, 0 ≤ x.1.no ∧ x.1.no ≤ 1000000) (h1 : 0 ≤ n ∧ n ≤ 1000000) :
    FnH Tryz.prog 129 [.c (.p d 0), .c (iT n)] H nx ⟨.t (.c (iT (stOf n (chs V)))), [], [], []⟩ := by
  refine fnR (fn := Tryz.f129) 26 rfl rfl rfl (args' := [.c (.p 0 0), .c (iT n)]) (H' := hDp V last) (nx' := 2) (fun e w M => ⟨_, mem_rd (r2p d l) (memDp hd hl) M, rfl⟩) rfl rfl rfl rfl fun w => ?_
  show At _ _ _ _ _ _ [(0, some (false, .cells [.nm 1, iT last] 138)), (1, some (false, .own 140 6 V.length (dpc V)))] 2
  have e1 := stOf_bs (n := n) hs
  refine rn [(13, .spec ⟨.tup [.c (iT (bsI V n : Nat)), .c (.b (bsB V n))], [], [], []⟩)] rfl (by (repeat' (first | exact trivial | exact rfl | exact trivial | exact fun _ => trivial | first | exact bsU rfl z hs h0 h1 | decide | refine And.intro ?_ ?_))) ?_
  refine ⟨fun h => ?_, fun h => ?_⟩
  · have hb : bsB V n = false := by simpa using h
    rw [hb, if_neg (by decide)] at e1
    rw [e1]
    refine rn [] rfl (by repeat' (first | exact trivial | exact rfl | refine And.intro ?_ ?_)) ?_
    exact ret0 tysOk rfl (by repeat' (first | exact trivial | exact rfl | refine And.intro ?_ ?_)) rfl
  · have hb : bsB V n = true := by simpa using h
    have hlt : bsI V n < V.length := by
      rcases Nat.lt_or_ge (bsI V n) V.length with h | h
      · exact h
      · rw [bsB, List.getElem?_eq_none h] at hb; cases hb
    rw [hb, if_pos rfl, List.getElem?_eq_getElem hlt] at e1
    rw [e1]
    have r1 := dpc_st hlt
    have f0 : (0 : Int) ≤ ((bsI V n : Nat) : Int) := by omega
    have f1 : ((bsI V n : Nat) : Int) < (V.length : Int) := by omega
    have f2 : ((bsI V n : Nat) : Int).toNat * 6 < (dpc V).length := by rw [dpc_length]; omega
    refine rn [(25, .ld [iT V[bsI V n].1.st])] rfl (by (repeat' (first | exact trivial | exact rfl | exact trivial | exact fun _ => trivial | first | exact r1 | exact ⟨r1, trivial⟩ | exact f0 | exact f1 | exact f2 | decide | refine And.intro ?_ ?_))) ?_
    exact ret0 tysOk rfl (by repeat' (first | exact trivial | exact rfl | refine And.intro ?_ ?_)) rfl
def isR (L : List Ch) (last n : Int) : Int := if 1 ≤ n ∧ n ≤ last then stOf n L else 0
def isE' (last n : Int) : Int := if 1 ≤ n ∧ n ≤ last then 0 else 5
end
end Cw
namespace Vc
open Go Go.RowKit
/-- A slice that may be read, and a closure: by names. -/
theorem mem_fnR {α : Type} {P : Program} {arg : α → Value} {av : α → TV} {ok : α → Prop} {pd : α → Bool} {H Hc : HL} {nc g n s : Nat} {v : TV} {xs : List Value} {caps : List (Nat × Nat)} (hav : ∀ x e, (av x).den e = arg x) (hbr : ∀ x, (av x).ns = [])
    (hg : fnB P g = true) (hW : wfH nc Hc = true) (hcn : wfL nc [(0, .t (.c (.fn (.func g) caps)))] = true) (hc : ∀ x, ok x → FnH P g (av x :: capsV caps) Hc nc ⟨.t (.c (.b (pd x))), [], [], []⟩) (hv : Cw.SlR H v n s xs) (hs : capsOk 999999 H Hc) {e : Env} {w : World} (M : MemOk H e w) :
    ∃ e', Mem (fun _ => False) [(0, some (false, .rd s n xs)), (1, some (false, .ab (fnP P arg ok pd)))] e' w ∧ [v, .c (.fn (.func g) caps)].map (TV.den e) = [TV.c (.nm 0), .c (.nm 1)].map (TV.den e') := by
  have Mc : MemOk Hc e w := ⟨fun n b o h => (let ⟨_, _, b0, h0⟩ := capsOk_ok hs n b o h; M.ob n b0 o h0), fun n o m c q h => by have := (capsOk_ok hs n _ _ h).1; cases this⟩
  have hp := fnP_of hav hbr hg hW hcn hc Mc fun n b o h => (capsOk_ok hs n b o h).1
  obtain ⟨A, c, h1, h2, h3⟩ := hv e w M
  refine ⟨⟨e.blk, fun m => if m = 0 then .slice A n c else (TV.c (.fn (.func g) caps)).den e, fun m q => if m = 0 then ∃ a, A = some a ∧ 0 < xs.length ∧ q = a.block else fnFp Hc e q, fun m => by
      show (if m = 0 then Value.slice A n c else (TV.c (.fn (.func g) caps)).den e).oneCell' = true
      split <;> rfl⟩, ⟨fun m b o h => ?_, fun m o k c' q h hk => ?_⟩, ?_⟩
  · rw [lookH_cons] at h
    split at h
    · rename_i hn
      cases h
      subst hn
      exact ⟨⟨A, c, rfl, h2, fun a ha h0 => ⟨a, ha, h0, rfl⟩⟩, fun g ⟨a, ha, h0, hg⟩ => ⟨hg ▸ h3 a ha h0, fun h => by cases h⟩⟩
    · rw [lookH_cons] at h
      split at h
      · rename_i hn
        cases h
        subst hn
        exact ⟨⟨hp, fnP_stable⟩, fun q hq => ⟨let ⟨n, x, h1, h2⟩ := hq; (Mc.ob n x.1 x.2 h1).2 q h2, fun h => by cases h⟩⟩
      · cases h
  · rw [lookH_cons] at h
    split at h
    · cases h
    · rw [lookH_cons] at h
      split at h
      · cases h
      · cases h
  · rw [List.map_cons, List.map_cons, h1]
    rfl
end Vc
namespace Cw
open Go Vc
open Go.Proofs
set_option maxRecDepth 100000
section
variable {H : HL} {nx l f : Nat} {b1 b2 : Bool} {xs : List Int} {ok : Int → Prop} {pd : Int → Bool}
theorem memFr (hl : lookH H l = some (b1, .rd 1 xs.length (ivs xs))) (hf : lookH H f = some (b2, .ab (fnI ok pd))) :
    rdsOk (r2 l f) H [(0, some (false, .rd 1 xs.length (ivs xs))), (1, some (false, .ab (fnI ok pd)))] := ⟨⟨b1, hl⟩, ⟨b2, hf⟩, trivial⟩
set_option maxRecDepth 100000 in
set_option maxHeartbeats 1000000 in
theorem indexR_h (hl : lookH H l = some (b1, .rd 1 xs.length (ivs xs))) (hf : lookH H f = some (b2, .ab (fnI ok pd))) (hok : ∀ x ∈ xs, ok x) (z : xs.length ≤ 100000000000000) :
    FnH Tryz.prog 74 [.c (.nm l), .c (.nm f)] H nx ⟨.t (.c (iT (ixF pd xs))), [], [], []⟩ := by
  refine fnR (fn := Tryz.f74) 19 rfl rfl rfl (args' := [.c (.nm 0), .c (.nm 1)]) (H' := [(0, some (false, .rd 1 xs.length (ivs xs))), (1, some (false, .ab (fnI ok pd)))]) (nx' := 2) (fun e w M => ⟨_, mem_rd (r2 l f) (memFr hl hf) M, rfl⟩) rfl rfl rfl rfl fun w => ?_
  refine rn [] rfl (by repeat' (first | exact trivial | exact rfl | refine And.intro ?_ ?_)) ?_
  refine At.loop (X := (k : Nat) ×' (k ≤ xs.length ∧ k ≤ xs.findIdx pd)) 2 (fun k => xs.length - k.1)
    (fun k => [(0, .t (.c (.nm 0))), (1, .t (.c (.nm 1))), (7, .t (.c (iT (xs.length : Nat)))), (8, .t (.c (iT (k.1 : Nat))))])
    (fun _ => [(0, some (false, .rd 1 xs.length (ivs xs))), (1, some (false, .ab (fnI ok pd)))]) ⟨0, by omega, by omega⟩ [] (fun k => wf rfl rfl) (by repeat' (first | exact trivial | exact rfl | refine And.intro ?_ ?_)) (by repeat' (first | exact trivial | exact rfl | refine And.intro ?_ ?_)) rfl fun k => ?_
  obtain ⟨k, hk1, hk2⟩ := k
  have w2 : IntKind.i64.wrap ((k : Int) + 1) = ((k + 1 : Nat) : Int) := by rw [wrap_sm (by omega) (by omega)]; omega
  refine rn [] rfl (by repeat' (first | exact trivial | exact rfl | refine And.intro ?_ ?_)) ?_
  refine ⟨fun h => ?_, fun h => ?_⟩
  · have hlt : k < xs.length := by have : (k : Int) < (xs.length : Int) := of_decide_eq_true h; omega
    have e1 : (ivs xs)[(k : Int).toNat * 1]? = some (.int .i64 xs[k]) := by simpa using ivs_at hlt
    have b0 : (0 : Int) ≤ (k : Int) := by omega
    have b1 : (k : Int) < (xs.length : Int) := by omega
    refine rn [(15, .ld [iT xs[k]]), (16, .spec ⟨.t (.c (.b (pd xs[k]))), [], [], []⟩)] rfl (by (repeat' (first | exact trivial | exact rfl | exact e1 | exact fun _ => e1 | first | exact spec_fn (xs[k]) rfl rfl rfl rfl (fun _ => rfl) (hok _ (List.getElem_mem _)) | exact b0 | exact b1 | exact ⟨e1, trivial⟩ | decide | refine And.intro ?_ ?_))) ?_
    refine ⟨fun h => ?_, fun h => ?_⟩
    · have h' : pd xs[k] = true := h
      have e2 : xs.findIdx pd = k := (List.findIdx_eq hlt).2 ⟨h', fun j hj => by have := List.not_of_lt_findIdx (p := pd) (xs := xs) (i := j) (by omega); simpa using this⟩
      have e3 : ixF pd xs = (k : Int) := by rw [ixF, e2, if_pos hlt]
      refine rn [] rfl (by repeat' (first | exact trivial | exact rfl | refine And.intro ?_ ?_)) (roundRet ?_)
      rw [e3]
      exact ret0 tysOk rfl (by repeat' (first | exact trivial | exact rfl | refine And.intro ?_ ?_)) rfl
    · have h' : pd xs[k] = false := h
      have hne : k + 1 ≤ xs.findIdx pd := by
        rcases Nat.lt_or_eq_of_le hk2 with h | h
        · omega
        · have := List.findIdx_getElem (p := pd) (xs := xs) (w := by omega)
          simp only [← h] at this
          rw [h'] at this
          cases this
      refine rn [] rfl (by repeat' (first | exact trivial | exact rfl | refine And.intro ?_ ?_)) ?_
      refine roundEnd ⟨k + 1, by omega, hne⟩ [] (by show xs.length - (k + 1) < xs.length - k; omega) (by (repeat' (first | exact trivial | exact rfl | exact w2 | exact fun _ => w2 | refine And.intro ?_ ?_))) (by repeat' (first | exact trivial | exact rfl | refine And.intro ?_ ?_)) rfl
  · have hlt : k = xs.length := by have : ¬ (k : Int) < (xs.length : Int) := of_decide_eq_false h; omega
    have e3 : ixF pd xs = -1 := by rw [ixF, if_neg (by omega)]
    refine rn [] rfl (by repeat' (first | exact trivial | exact rfl | refine And.intro ?_ ?_)) (roundExit rfl ?_)
    refine rnA [] rfl (by repeat' (first | exact trivial | exact rfl | refine And.intro ?_ ?_)) ?_
    rw [e3]
    exact ret0 tysOk rfl (by repeat' (first | exact trivial | exact rfl | refine And.intro ?_ ?_)) rfl
end
theorem ixF_any (pd : Int → Bool) (xs : List Int) : decide (0 ≤ ixF pd xs) = xs.any pd := by
  unfold ixF
  by_cases h : xs.findIdx pd < xs.length
  · rw [if_pos h, decide_eq_true (by omega)]
    rw [List.findIdx_lt_length] at h
    exact (List.any_eq_true.2 h).symm
  · rw [if_neg h, decide_eq_false (by omega)]
    rw [List.findIdx_lt_length] at h
    symm
    rw [Bool.eq_false_iff]
    intro hh
    exact h (List.any_eq_true.1 hh)
set_option maxRecDepth 100000 in
set_option maxHeartbeats 1000000 in
theorem containsF_h {H Hc : HL} {nx nc g : Nat} {v : TV} {caps : List (Nat × Nat)} {xs : List Int} {pd : Int → Bool} (ok : Int → Prop) (hg : fnB Tryz.prog g = true) (hW : wfH nc Hc = true) (hcn : wfL nc [(0, .t (.c (.fn (.func g) caps)))] = true)
    (hc : ∀ x, ok x → FnH Tryz.prog g (.c (iT x) :: capsV caps) Hc nc ⟨.t (.c (.b (pd x))), [], [], []⟩) (hv : SlR H v xs.length 1 (ivs xs)) (hs : capsOk 999999 H Hc) (hok : ∀ x ∈ xs, ok x) (z : xs.length ≤ 100000000000000) :
    FnH Tryz.prog 127 [v, .c (.fn (.func g) caps)] H nx ⟨.t (.c (.b (xs.any pd))), [], [], []⟩ := by
  refine fnR (fn := Tryz.f127) 9 rfl rfl rfl (args' := [.c (.nm 0), .c (.nm 1)]) (H' := [(0, some (false, .rd 1 xs.length (ivs xs))), (1, some (false, .ab (fnI ok pd)))]) (nx' := 2)
    (fun e w M => mem_fnR (av := fun x => .c (iT x)) (fun _ _ => rfl) (fun _ => rfl) hg hW hcn hc hv hs M) rfl rfl rfl rfl fun w => ?_
  rw [← ixF_any]
  refine rn [(7, .spec ⟨.t (.c (iT (ixF pd xs))), [], [], []⟩)] rfl (by (repeat' (first | exact trivial | exact rfl | exact trivial | exact fun _ => trivial | first | exact indexR_h rfl rfl hok z | decide | refine And.intro ?_ ?_))) ?_
  exact ret0 tysOk rfl (by repeat' (first | exact trivial | exact rfl | refine And.intro ?_ ?_)) rfl
end Cw
namespace Cw
open Go Vc
open Go.Proofs
set_option maxRecDepth 100000
/-- What those ahead of a change are, and their slice. -/
def fz (p : Ch × Option Addr × Nat) : List Int × Option Addr × Nat := (p.1.ah, p.2)
/-- All these slices of numbers may be read. -/
def frzP (W : List (List Int × Option Addr × Nat)) : AbP := fun _ F w => ∀ p ∈ W, Vc.Rds w p.2.1 p.1.length p.2.2 1 (ivs p.1) ∧ ∀ a, p.2.1 = some a → 0 < p.1.length → F a.block
theorem frzP_stable (W : List (List Int × Option Addr × Nat)) : stable (frzP W) := by
  intro v F w w' h hk p hp
  obtain ⟨h1, h2⟩ := h p hp
  exact ⟨h1.stays fun a ha h0 => hk _ (h2 a ha (by rw [ivs_length] at h0; exact h0)), h2⟩
theorem frz_sl {H : HL} {q : Nat} {b : Bool} {W : List (List Int × Option Addr × Nat)} {p : Ch × Option Addr × Nat} (hq : lookH H q = some (b, .ab (frzP W))) (hp : fz p ∈ W) : SlR H (.c (.raw (.slice p.2.1 p.1.ah.length p.2.2))) p.1.ah.length 1 (ivs p.1.ah) := by
  intro e w M
  obtain ⟨⟨h1, _⟩, h2⟩ := M.ob q b _ hq
  obtain ⟨h3, h4⟩ := h1 _ hp
  exact ⟨_, _, rfl, h3, fun a ha h0 => h2 _ (h4 a ha (by rw [ivs_length] at h0; exact h0))⟩
/-- The slices of those ahead are told of. -/
def SubW (V : List (Ch × Option Addr × Nat)) (W : List (List Int × Option Addr × Nat)) : Prop := ∀ p ∈ V, fz p ∈ W
def bm (acc : List Int) : List (Int × Bool) := acc.map fun n => (n, true)
theorem bm_get (n : Int) : ∀ acc : List Int, gget n (bm acc) = if acc.contains n then some true else none
  | [] => rfl
  | a :: acc => by
    show gget n ((a, true) :: bm acc) = _
    unfold gget
    by_cases h : a = n
    · subst h; simp
    · rw [if_neg h, bm_get n acc]
      have : (a :: acc).contains n = acc.contains n := by
        rw [Bool.eq_iff_iff, List.contains_iff_mem, List.contains_iff_mem, List.mem_cons]
        exact ⟨fun h' => h'.resolve_left fun e => h e.symm, .inr⟩
      rw [this]
theorem bm_lk (n : Int) (acc : List Int) : lkV (gm Value.bool (bm acc)) n (.bool false) false = .bool (acc.contains n) := by
  have := lk_gm1 (vv := Value.bool) n (bm acc) false
  rw [this, bm_get]
  cases acc.contains n <;> rfl
def pdR (L : List Ch) (acc : List Int) (n : Int) : Bool := stOf n L != 0 && !acc.contains n
theorem rdyC_pd (L : List Ch) (k : Int) (c : Ch) (acc : List Int) : rdyC L k c acc = (c.at' == k && c.st == 1 && !(c.ah.any (pdR L acc))) := by
  rw [rdyC]
  congr 1
  rw [List.not_any_eq_all_not]
  congr 1
  funext n
  unfold pdR
  cases h : stOf n L == 0 <;> cases h2 : acc.contains n <;> simp_all
section
variable {H : HL} {nx d l q : Nat} {b1 b2 b3 : Bool} {V : List (Ch × Option Addr × Nat)} {W : List (List Int × Option Addr × Nat)} {last : Int}
def hRd (V : List (Ch × Option Addr × Nat)) (last : Int) (acc : List Int) : HL := [(0, some (false, .cells [.nm 1, iT last] 138)), (1, some (false, .own 140 6 V.length (dpc V))), (3, some (false, .cells [.p 0 0] 76)), (4, some (false, .mp (gm Value.bool (bm acc)))), (5, some (false, .cells [.mp 4] 166))]
set_option maxRecDepth 100000 in
set_option maxHeartbeats 2000000 in
theorem ready1 (acc : List Int) (z : V.length ≤ 1000000) (hs : srtV V) (h0 : ∀ x ∈ V, 0 ≤ x.1.no ∧ x.1.no ≤ 1000000) (n : Int) (h1 : 0 ≤ n ∧ n ≤ 1000000) :
    FnH Tryz.prog 128 [.c (iT n), .c (.p 3 0), .c (.p 5 0)] (hRd V last acc) 7 ⟨.t (.c (.b (pdR (chs V) acc n))), [], [], []⟩ := by
  refine fnR (fn := Tryz.f128) 15 rfl rfl rfl (args' := [.c (iT n), .c (.p 3 0), .c (.p 5 0)]) (H' := hRd V last acc) (nx' := 7) (fun e w M => ⟨_, mem_rd (fun n => n) (H' := hRd V last acc) ⟨⟨false, rfl⟩, ⟨false, rfl⟩, ⟨false, rfl⟩, ⟨false, rfl⟩, ⟨false, rfl⟩, trivial⟩ M, rfl⟩) rfl rfl rfl rfl fun w => ?_
  show At _ _ _ _ _ _ [(0, some (false, .cells [.nm 1, iT last] 138)), (1, some (false, .own 140 6 V.length (dpc V))), (3, some (false, .cells [.p 0 0] 76)), (4, some (false, .mp (gm Value.bool (bm acc)))), (5, some (false, .cells [.mp 4] 166))] 7
  cases hst : stOf n (chs V) != 0 with
  | false =>
    have e1 : pdR (chs V) acc n = false := by rw [pdR, hst, Bool.false_and]
    rw [e1]
    refine rn [(7, .spec ⟨.t (.c (iT (stOf n (chs V)))), [], [], []⟩), (9, .dec false)] rfl (by (repeat' (first | exact trivial | exact rfl | exact trivial | exact fun _ => trivial | first | exact isU rfl rfl z hs h0 h1 | exact hst | decide | refine And.intro ?_ ?_))) ?_
    exact ret0 tysOk rfl (by repeat' (first | exact trivial | exact rfl | refine And.intro ?_ ?_)) rfl
  | true =>
    have e1 : pdR (chs V) acc n = !acc.contains n := by rw [pdR, hst, Bool.true_and]
    rw [e1]
    refine rn [(7, .spec ⟨.t (.c (iT (stOf n (chs V)))), [], [], []⟩), (9, .dec true), (12, .ret (.t (.c (.b (acc.contains n)))))] rfl (by (repeat' (first | exact trivial | exact rfl | exact trivial | exact fun _ => trivial | first | exact isU rfl rfl z hs h0 h1 | exact hst | exact bm_lk n acc | decide | refine And.intro ?_ ?_))) ?_
    exact ret0 tysOk rfl (by repeat' (first | exact trivial | exact rfl | refine And.intro ?_ ?_)) rfl
theorem rdyT_succ {k : Int} {j : Nat} (h : j < V.length) : rdyT (chs V) k (j + 1) = if (V[j].1.at' == k && V[j].1.st == 1 && !(V[j].1.ah.any (pdR (chs V) ((rdyT (chs V) k j).map (·.2.no))))) = true then rdyT (chs V) k j ++ [(j, V[j].1)] else rdyT (chs V) k j := by
  have : (chs V)[j]? = some V[j].1 := by simp [h]
  rw [rdyT, this, ← rdyC_pd]
theorem rdyT_le (L : List Ch) (k : Int) : ∀ j, (rdyT L k j).length ≤ j
  | 0 => Nat.le_refl _
  | j + 1 => by
    have := rdyT_le L k j
    unfold rdyT
    split
    · omega
    · split
      · simp; omega
      · omega
theorem rdyT_no (hs : srtV V) (k : Int) : ∀ j, j ≤ V.length → ∀ p ∈ rdyT (chs V) k j, ∃ h : p.1 < V.length, p.1 < j ∧ p.2 = V[p.1].1
  | 0, _, p, hp => by cases hp
  | j + 1, hj, p, hp => by
    rw [rdyT_succ (by omega)] at hp
    split at hp
    · rcases List.mem_append.1 hp with hp | hp
      · obtain ⟨h1, h2, h3⟩ := rdyT_no hs k j (by omega) p hp
        exact ⟨h1, by omega, h3⟩
      · rw [List.mem_singleton.1 hp]
        exact ⟨by show j < V.length; omega, by show j < j + 1; omega, rfl⟩
    · obtain ⟨h1, h2, h3⟩ := rdyT_no hs k j (by omega) p hp
      exact ⟨h1, by omega, h3⟩
/-- The places of what may be sent. -/
def rdyI (L : List Ch) (k : Int) (j : Nat) : List Int := (rdyT L k j).map fun p => (p.1 : Int)
def accN (L : List Ch) (k : Int) (j : Nat) : List Int := (rdyT L k j).map (·.2.no)
def hDr (V : List (Ch × Option Addr × Nat)) (W : List (List Int × Option Addr × Nat)) (last : Int) : HL := [(0, some (false, .cells [.nm 1, iT last] 138)), (1, some (false, .own 140 6 V.length (dpc V))), (2, some (false, .ab (frzP W)))]
set_option maxRecDepth 100000 in
set_option maxHeartbeats 4000000 in
theorem readyU (hd : lookH H d = some (b1, .cells [.nm l, iT last] 138)) (hl : lookH H l = some (b2, .own 140 6 V.length (dpc V))) (hq : lookH H q = some (b3, .ab (frzP W))) (sub : SubW V W) (z : V.length ≤ 1000000) (hs : srtV V) (h0 : ∀ x ∈ V, 0 ≤ x.1.no ∧ x.1.no ≤ 1000000) (ha : ∀ x ∈ V, x.1.ah.length ≤ 100000000000000 ∧ ∀ n ∈ x.1.ah, 0 ≤ n ∧ n ≤ 1000000) (k : Int) :
    FnH Tryz.prog 97 [.c (.p d 0), .c (iT k)] H nx ⟨.t (.c (.nm nx)), [(true, .own 3 1 (rdyI (chs V) k V.length).length (ivs (rdyI (chs V) k V.length)))], [], []⟩ := by
  refine fnN (fn := Tryz.f97) 45 rfl rfl rfl (args' := [.c (.p 0 0), .c (iT k)]) (H' := hDr V W last) (nx' := 3) (fun e w M => ⟨_, mem_rd (r3p d l q) (H' := hDr V W last) ⟨⟨b1, hd⟩, ⟨b2, hl⟩, ⟨b3, hq⟩, trivial⟩ M, rfl⟩) rfl rfl rfl (inR_one _) rfl fun w => ?_
  show At _ _ _ _ _ _ [(0, some (false, .cells [.nm 1, iT last] 138)), (1, some (false, .own 140 6 V.length (dpc V))), (2, some (false, .ab (frzP W)))] 3
  refine rn [] rfl (by repeat' (first | exact trivial | exact rfl | refine And.intro ?_ ?_)) ?_
  refine At.nil 5 3 1 rfl ?_
  refine At.loop (X := (j : Nat) ×' (j ≤ V.length)) 7 (fun x => V.length - x.1)
    (fun x => [(1, .t (.c (iT k))), (2, .t (.c (.p 3 0))), (5, .t (.c (.nm 6))), (6, .t (.c (.p 5 0))), (14, .t (.c (.nm 1))), (15, .t (.c (iT (V.length : Nat)))), (16, .t (.c (iT (x.1 : Nat))))])
    (fun x => [(0, some (false, .cells [.nm 1, iT last] 138)), (1, some (false, .own 140 6 V.length (dpc V))), (2, some (false, .ab (frzP W))), (3, some (true, .cells [.p 0 0] 76)), (4, some (true, .mp (gm Value.bool (bm (accN (chs V) k x.1))))), (5, some (true, .cells [.mp 4] 166)), (6, some (true, .own 3 1 (rdyI (chs V) k x.1).length (ivs (rdyI (chs V) k x.1))))]) ⟨0, by omega⟩ [] (fun x => wf rfl rfl) (by repeat' (first | exact trivial | exact rfl | refine And.intro ?_ ?_)) (by repeat' (first | exact trivial | exact rfl | refine And.intro ?_ ?_)) rfl fun x => ?_
  obtain ⟨j, hj⟩ := x
  have w3 : IntKind.i64.wrap ((j : Int) + 1) = ((j + 1 : Nat) : Int) := by rw [wrap_sm (by omega) (by omega)]; omega
  refine rn [] rfl (by repeat' (first | exact trivial | exact rfl | refine And.intro ?_ ?_)) ?_
  refine ⟨fun h => ?_, fun h => ?_⟩
  · have hlt : j < V.length := by have : (j : Int) < (V.length : Int) := of_decide_eq_true h; omega
    clear h
    have r1 : Vc.rowAt (dpc V) ((j : Int).toNat * 6) [iT V[j].1.no, iT V[j].1.at', iT V[j].1.off, .s V[j].1.by', .raw (.slice V[j].2.1 V[j].1.ah.length V[j].2.2), iT V[j].1.st] := dpc_rd hlt
    have b0 : (0 : Int) ≤ (j : Int) := by omega
    have b1 : (j : Int) < (V.length : Int) := by omega
    have c5 : (j : Int).toNat * 6 < (dpc V).length := by rw [dpc_length]; omega
    have hsu := rdyT_succ (k := k) hlt
    have hle := rdyT_le (chs V) k j
    have hm := List.getElem_mem hlt
    have hno := h0 _ hm
    have hah := ha _ hm
    have hil : (rdyI (chs V) k j).length ≤ j := by rw [rdyI, List.length_map]; exact hle
    have m1 : (rdyI (chs V) k j).length + 1 ≤ maxLen := by simp only [maxLen]; omega
    have m2 : ((rdyI (chs V) k j).length + 1) * 8 ≤ 140737488355328 := by omega
    have hno' : ∀ p ∈ bm (accN (chs V) k j), p.1 ≠ V[j].1.no := fun p hp => by
      obtain ⟨n, hn, rfl⟩ := List.mem_map.1 hp
      obtain ⟨x, hx, rfl⟩ := List.mem_map.1 hn
      obtain ⟨q1, q2, q3⟩ := rdyT_no hs k j (by omega) x hx
      have := hs _ _ q1 hlt q2
      rw [q3]
      show V[x.1].1.no ≠ _
      omega
    have hct : ∀ (H : HL) (nx : Nat), lookH H 2 = some (false, .ab (frzP W)) → capsOk 999999 H (hRd V last (accN (chs V) k j)) → FnH Tryz.prog 127 [.c (.raw (.slice V[j].2.1 V[j].1.ah.length V[j].2.2)), .c (.fn (.func 128) [(3, 0), (5, 0)])] H nx ⟨.t (.c (.b (V[j].1.ah.any (pdR (chs V) (accN (chs V) k j))))), [], [], []⟩ := fun H nx g1 g2 =>
      containsF_h (Hc := hRd V last (accN (chs V) k j)) (nc := 7) (fun n => 0 ≤ n ∧ n ≤ 1000000) rfl rfl rfl (fun n hn => ready1 _ z hs h0 n hn) (frz_sl g1 (sub _ hm)) g2 hah.2 hah.1
    cases ca : V[j].1.at' == k with
    | false =>
      have g1 : (V[j].1.at' != k) = true := by rw [bne, ca]; rfl
      rw [ca, Bool.false_and, Bool.false_and, if_neg (by decide)] at hsu
      refine rn [(20, .ld [iT V[j].1.no, iT V[j].1.at', iT V[j].1.off, .s V[j].1.by', .raw (.slice V[j].2.1 V[j].1.ah.length V[j].2.2), iT V[j].1.st]), (25, .dec true), (29, .dec true)] rfl (by (repeat' (first | exact trivial | exact rfl | exact trivial | exact fun _ => trivial | first | exact r1 | exact b0 | exact b1 | exact c5 | exact g1 | decide | refine And.intro ?_ ?_))) ?_
      exact roundEnd ⟨j + 1, by omega⟩ [] (by show V.length - (j + 1) < V.length - j; omega) (by (repeat' (first | exact trivial | exact rfl | exact w3 | exact fun _ => w3 | refine And.intro ?_ ?_))) (by (repeat' (first | exact trivial | exact rfl | exact trivial | exact fun _ => trivial | first | (rw [rdyI, rdyI, hsu]; done) | (rw [accN, accN, hsu]; done) | refine And.intro ?_ ?_))) rfl
    | true =>
      have g1 : (V[j].1.at' != k) = false := by rw [bne, ca]; rfl
      rw [ca, Bool.true_and] at hsu
      cases cs : V[j].1.st == 1 with
      | false =>
        have g2 : (V[j].1.st != 1) = true := by rw [bne, cs]; rfl
        rw [cs, Bool.false_and, if_neg (by decide)] at hsu
        refine rn [(20, .ld [iT V[j].1.no, iT V[j].1.at', iT V[j].1.off, .s V[j].1.by', .raw (.slice V[j].2.1 V[j].1.ah.length V[j].2.2), iT V[j].1.st]), (25, .dec false), (29, .dec true)] rfl (by (repeat' (first | exact trivial | exact rfl | exact trivial | exact fun _ => trivial | first | exact r1 | exact b0 | exact b1 | exact c5 | exact g1 | exact g2 | decide | refine And.intro ?_ ?_))) ?_
        exact roundEnd ⟨j + 1, by omega⟩ [] (by show V.length - (j + 1) < V.length - j; omega) (by (repeat' (first | exact trivial | exact rfl | exact w3 | exact fun _ => w3 | refine And.intro ?_ ?_))) (by (repeat' (first | exact trivial | exact rfl | exact trivial | exact fun _ => trivial | first | (rw [rdyI, rdyI, hsu]; done) | (rw [accN, accN, hsu]; done) | refine And.intro ?_ ?_))) rfl
      | true =>
        have g2 : (V[j].1.st != 1) = false := by rw [bne, cs]; rfl
        rw [cs, Bool.true_and] at hsu
        cases cw : V[j].1.ah.any (pdR (chs V) (accN (chs V) k j)) with
        | true =>
          rw [show V[j].1.ah.any (pdR (chs V) ((rdyT (chs V) k j).map (·.2.no))) = true from cw, if_neg (by decide)] at hsu
          rw [cw] at hct
          refine rn [(20, .ld [iT V[j].1.no, iT V[j].1.at', iT V[j].1.off, .s V[j].1.by', .raw (.slice V[j].2.1 V[j].1.ah.length V[j].2.2), iT V[j].1.st]), (25, .dec false), (29, .dec false), (33, .spec ⟨.t (.c (.b true)), [], [], []⟩), (35, .dec false)] rfl (by (repeat' (first | exact trivial | exact rfl | exact trivial | exact fun _ => trivial | first | exact r1 | exact b0 | exact b1 | exact c5 | exact g1 | exact g2 | exact hct _ _ rfl ⟨rfl, ⟨_, rfl⟩, rfl, ⟨_, rfl⟩, rfl, ⟨_, rfl⟩, rfl, ⟨_, rfl⟩, rfl, ⟨_, rfl⟩, trivial⟩ | decide | refine And.intro ?_ ?_))) ?_
          exact roundEnd ⟨j + 1, by omega⟩ [] (by show V.length - (j + 1) < V.length - j; omega) (by (repeat' (first | exact trivial | exact rfl | exact w3 | exact fun _ => w3 | refine And.intro ?_ ?_))) (by (repeat' (first | exact trivial | exact rfl | exact trivial | exact fun _ => trivial | first | (rw [rdyI, rdyI, hsu]; done) | (rw [accN, accN, hsu]; done) | refine And.intro ?_ ?_))) rfl
        | false =>
          rw [show V[j].1.ah.any (pdR (chs V) ((rdyT (chs V) k j).map (·.2.no))) = false from cw, if_pos (by decide)] at hsu
          rw [cw] at hct
          have e1 : rdyI (chs V) k (j + 1) = rdyI (chs V) k j ++ [(j : Int)] := by rw [rdyI, hsu, List.map_append]; rfl
          have e2 : accN (chs V) k (j + 1) = accN (chs V) k j ++ [V[j].1.no] := by rw [accN, hsu, List.map_append]; rfl
          have e3 : mput V[j].1.no (Value.bool true) (gm Value.bool (bm (accN (chs V) k j))) = gm Value.bool (bm (accN (chs V) k (j + 1))) := by
            rw [gm_put (vv := Value.bool) (x := true) hno', e2]
            congr 1
            simp [bm]
          have hin : inI64 V[j].1.no := ⟨by omega, by omega⟩
          refine rn [(20, .ld [iT V[j].1.no, iT V[j].1.at', iT V[j].1.off, .s V[j].1.by', .raw (.slice V[j].2.1 V[j].1.ah.length V[j].2.2), iT V[j].1.st]), (25, .dec false), (29, .dec false), (33, .spec ⟨.t (.c (.b false)), [], [], []⟩), (35, .dec true)] rfl (by (repeat' (first | exact trivial | exact rfl | exact trivial | exact fun _ => trivial | first | exact r1 | exact b0 | exact b1 | exact c5 | exact g1 | exact g2 | exact hct _ _ rfl ⟨rfl, ⟨_, rfl⟩, rfl, ⟨_, rfl⟩, rfl, ⟨_, rfl⟩, rfl, ⟨_, rfl⟩, rfl, ⟨_, rfl⟩, trivial⟩ | exact hin | exact m1 | exact m2 | decide | refine And.intro ?_ ?_))) ?_
          refine roundEnd ⟨j + 1, by omega⟩ [(6, 9)] (by show V.length - (j + 1) < V.length - j; omega) (by (repeat' (first | exact trivial | exact rfl | exact w3 | exact fun _ => w3 | refine And.intro ?_ ?_))) ?_ rfl
          (repeat' (first | exact trivial | exact rfl | exact e3 | exact fun _ => e3 | refine And.intro ?_ ?_))
          · rw [e1]; simp
          · rw [e1, app_eq]; simp [ivs]; rfl
  · have hlt : j = V.length := by have : ¬ (j : Int) < (V.length : Int) := of_decide_eq_false h; omega
    subst hlt
    refine rn [] rfl (by repeat' (first | exact trivial | exact rfl | refine And.intro ?_ ?_)) (roundExit rfl ?_)
    refine rnA [] rfl (by repeat' (first | exact trivial | exact rfl | refine And.intro ?_ ?_)) ?_
    exact retN tysOk [(nx, 6)] rfl (by simp only [retS, SV.eqs, eqsT, TV.eqs, CV.eqs, ren_one]; repeat' (first | exact trivial | exact rfl | refine And.intro ?_ ?_)) (by simp only [newsH, subH, ren_one]; repeat' (first | exact trivial | exact rfl | refine And.intro ?_ ?_)) (by simp [injK, keysH, newsH, inL]) rfl
theorem rdyI_mem (hs : srtV V) (k : Int) : ∀ p ∈ rdyI (chs V) k V.length, 0 ≤ p ∧ p < (V.length : Int) := fun p hp => by
  obtain ⟨x, hx, rfl⟩ := List.mem_map.1 hp
  obtain ⟨h1, _⟩ := rdyT_no hs k V.length (Nat.le_refl _) x hx
  exact ⟨by omega, by omega⟩
theorem rdyI_len (V : List (Ch × Option Addr × Nat)) (k : Int) : (rdyI (chs V) k V.length).length ≤ V.length := by
  rw [rdyI, List.length_map]; exact rdyT_le _ _ _
theorem nosP_rdy (hs : srtV V) (k : Int) : nosP (chs V) (rdyI (chs V) k V.length) = rdyN (chs V) k := by
  rw [nosP, rdyI, rdyN, List.map_map, List.length_map]
  refine List.map_congr_left fun x hx => ?_
  obtain ⟨h1, _, h3⟩ := rdyT_no hs k V.length (Nat.le_refl _) x hx
  simp only [Function.comp_apply]
  rw [noAt_eq h1, h3]
/-- The patches of what may be sent. -/
def rdyP (L : List Ch) (k : Int) : List Pt := (rdyL L k).map fun c => (c.off, c.by')
theorem chP_rdy (hs : srtV V) (k : Int) : (rdyI (chs V) k V.length).map (chP (chs V)) = rdyP (chs V) k := by
  rw [rdyI, rdyP, rdyL, List.map_map, List.map_map, List.length_map]
  refine List.map_congr_left fun x hx => ?_
  obtain ⟨h1, _, h3⟩ := rdyT_no hs k V.length (Nat.le_refl _) x hx
  simp only [Function.comp_apply]
  rw [chP_eq h1, h3]
/-- What stays of a row of changes. -/
structure VOk (V : List (Ch × Option Addr × Nat)) : Prop where
  z : V.length ≤ 400000
  srt : srtV V
  no : ∀ x ∈ V, 0 ≤ x.1.no ∧ x.1.no ≤ 1000000
  ah : ∀ x ∈ V, x.1.ah.length ≤ 100000000000000 ∧ ∀ n ∈ x.1.ah, 0 ≤ n ∧ n ≤ 1000000
  by' : ∀ x ∈ V, x.1.by'.size ≤ 9223372036854775807
  sec : ∀ x ∈ V, inI64 x.1.at'
theorem VOk.zz {V : List (Ch × Option Addr × Nat)} (ok : VOk V) : V.length ≤ 1000000 := Nat.le_trans ok.z (by decide)
set_option maxRecDepth 100000 in
set_option maxHeartbeats 2000000 in
theorem ImageU (hd : lookH H d = some (b1, .cells [.nm l, iT last] 138)) (hl : lookH H l = some (b2, .own 140 6 V.length (dpc V))) (hq : lookH H q = some (b3, .ab (frzP W))) (sub : SubW V W) (ok : VOk V) (k : Int) (s : ByteArray) (hs : s.size ≤ 9223372036854775807) :
    FnH Tryz.prog 98 [.c (.p d 0), .c (iT k), .c (.s s)] H nx ⟨.tup [.c (.s (pt s (rdyP (chs V) k))), .c (iT (pte s (rdyP (chs V) k)))], [], [], []⟩ := by
  refine fnR (fn := Tryz.f98) 16 rfl rfl rfl (args' := [.c (.p 0 0), .c (iT k), .c (.s s)]) (H' := hDr V W last) (nx' := 3) (fun e w M => ⟨_, mem_rd (r3p d l q) (H' := hDr V W last) ⟨⟨b1, hd⟩, ⟨b2, hl⟩, ⟨b3, hq⟩, trivial⟩ M, rfl⟩) rfl rfl rfl rfl fun w => ?_
  show At _ _ _ _ _ _ [(0, some (false, .cells [.nm 1, iT last] 138)), (1, some (false, .own 140 6 V.length (dpc V))), (2, some (false, .ab (frzP W)))] 3
  have hlen := rdyI_len V k
  have hz := ok.z
  rw [← chP_rdy ok.srt k]
  refine rn [(12, .spec ⟨.t (.c (.nm 3)), [(true, .own 3 1 (rdyI (chs V) k V.length).length (ivs (rdyI (chs V) k V.length)))], [], []⟩), (13, .spec ⟨.tup [.c (.s (pt s ((rdyI (chs V) k V.length).map (chP (chs V))))), .c (iT (pte s ((rdyI (chs V) k V.length).map (chP (chs V)))))], [], [], []⟩)] rfl
    (by (repeat' (first | exact trivial | exact rfl | exact trivial | exact fun _ => trivial | first | exact readyU (q := 2) rfl rfl rfl sub ok.zz ok.srt ok.no ok.ah k | exact patchedU rfl rfl rfl (by omega) (rdyI_mem ok.srt k) ok.by' s hs | decide | refine And.intro ?_ ?_))) ?_
  exact ret0 tysOk rfl (by repeat' (first | exact trivial | exact rfl | refine And.intro ?_ ?_)) rfl
end
end Cw
namespace Cw
open Go Vc
open Go.Proofs
set_option maxRecDepth 100000
section
variable {H : HL} {nx d l : Nat} {b1 b2 : Bool} {V : List (Ch × Option Addr × Nat)} {last : Int}
/-- The places of what is not done at a sector. -/
def vwI (L : List Ch) (k : Int) : List Int := srt (ofI L k 1 ++ ofI L k 2)
theorem ofI_le (V : List (Ch × Option Addr × Nat)) (k s : Int) : (ofI (chs V) k s).length ≤ V.length := by
  have := ofT_le (chs V) k s (chs V).length
  simpa [ofI] using this
theorem ofI_mem {V : List (Ch × Option Addr × Nat)} {k s p : Int} (h : p ∈ ofI (chs V) k s) : 0 ≤ p ∧ p < (V.length : Int) := by
  have := ofT_mem h
  simpa using this
theorem vwI_mem {V : List (Ch × Option Addr × Nat)} {k : Int} : ∀ p ∈ vwI (chs V) k, 0 ≤ p ∧ p < (V.length : Int) := fun p hp => by
  have h1 : p ∈ ofI (chs V) k 1 ++ ofI (chs V) k 2 := (List.mergeSort_perm _ _).mem_iff.1 hp
  rcases List.mem_append.1 h1 with h | h
  · exact ofI_mem h
  · exact ofI_mem h
set_option maxRecDepth 100000 in
set_option maxHeartbeats 2000000 in
theorem ViewU (hd : lookH H d = some (b1, .cells [.nm l, iT last] 138)) (hl : lookH H l = some (b2, .own 140 6 V.length (dpc V))) (ok : VOk V) (k : Int) (s : ByteArray) (hs : s.size ≤ 9223372036854775807) :
    FnH Tryz.prog 154 [.c (.p d 0), .c (iT k), .c (.s s)] H nx ⟨.tup [.c (.s (pt s ((vwI (chs V) k).map (chP (chs V))))), .c (iT (pte s ((vwI (chs V) k).map (chP (chs V)))))], [], [], []⟩ := by
  refine fnR (fn := Tryz.f154) 24 rfl rfl rfl (args' := [.c (.p 0 0), .c (iT k), .c (.s s)]) (H' := hDp V last) (nx' := 2) (fun e w M => ⟨_, mem_rd (r2p d l) (memDp hd hl) M, rfl⟩) rfl rfl rfl rfl fun w => ?_
  show At _ _ _ _ _ _ [(0, some (false, .cells [.nm 1, iT last] 138)), (1, some (false, .own 140 6 V.length (dpc V)))] 2
  have hz := ok.z
  have ha := ofI_le V k 1
  have hb := ofI_le V k 2
  have hv := vwI_mem (V := V) (k := k)
  have hvl : (vwI (chs V) k).length = (ofI (chs V) k 1).length + (ofI (chs V) k 2).length := by rw [vwI, srt_length, List.length_append]
  obtain ⟨A, hA⟩ : ∃ A, ofI (chs V) k 1 = A := ⟨_, rfl⟩
  obtain ⟨B, hB⟩ : ∃ B, ofI (chs V) k 2 = B := ⟨_, rfl⟩
  have hof1 := fun (H : HL) (nx : Nat) (h1 : lookH H 0 = some (false, .cells [.nm 1, iT last] 138)) (h2 : lookH H 1 = some (false, .own 140 6 V.length (dpc V))) => ofU (nx := nx) h1 h2 ok.zz k 1
  have hof2 := fun (H : HL) (nx : Nat) (h1 : lookH H 0 = some (false, .cells [.nm 1, iT last] 138)) (h2 : lookH H 1 = some (false, .own 140 6 V.length (dpc V))) => ofU (nx := nx) h1 h2 ok.zz k 2
  rw [hA] at hof1 ha
  rw [hB] at hof2 hb
  rw [hA, hB] at hvl
  have hvw : srt (A ++ B) = vwI (chs V) k := by rw [vwI, hA, hB]
  have m1 : A.length + B.length ≤ maxLen := by simp only [maxLen]; omega
  have m2 : (A.length + B.length) * 8 ≤ 140737488355328 := by omega
  have o1 := ivs_one B
  have e6 : app (ivs A) (ivs B) = ivs (A ++ B) := by rw [app_eq]; simp [ivs]
  have e5 : A.length + B.length = (A ++ B).length := by simp
  have hsr : ∀ (H : HL) (nx : Nat), lookH H 4 = some (true, .own 3 1 (A.length + B.length) (app (ivs A) (ivs B))) → FnH Tryz.prog 76 [.c (.nm 4)] H nx ⟨.tup [], [], [(4, some (.own 3 1 (vwI (chs V) k).length (ivs (vwI (chs V) k))))], []⟩ := fun H nx h => by
    rw [e5, e6] at h
    have := sort_h (nx := nx) (by rw [← e5]; omega) h
    rw [hvw, show (A ++ B).length = (vwI (chs V) k).length by rw [hvl, ← e5]] at this
    exact this
  refine rn [(11, .spec ⟨.t (.c (.nm 2)), [(true, .own 3 1 A.length (ivs A))], [], []⟩), (14, .spec ⟨.t (.c (.nm 3)), [(true, .own 3 1 B.length (ivs B))], [], []⟩), (17, .spec ⟨.tup [], [], [(4, some (.own 3 1 (vwI (chs V) k).length (ivs (vwI (chs V) k))))], []⟩), (21, .spec ⟨.tup [.c (.s (pt s ((vwI (chs V) k).map (chP (chs V))))), .c (iT (pte s ((vwI (chs V) k).map (chP (chs V)))))], [], [], []⟩)] rfl
    (by (repeat' (first | exact trivial | exact rfl | exact trivial | exact fun _ => trivial | first | exact hof1 _ _ rfl rfl | exact hof2 _ _ rfl rfl | exact hsr _ _ rfl | exact patchedU rfl rfl rfl (by omega) hv ok.by' s hs | exact m1 | exact m2 | exact o1 | decide | refine And.intro ?_ ?_))) ?_
  exact ret0 tysOk rfl (by repeat' (first | exact trivial | exact rfl | refine And.intro ?_ ?_)) rfl
end
end Cw
