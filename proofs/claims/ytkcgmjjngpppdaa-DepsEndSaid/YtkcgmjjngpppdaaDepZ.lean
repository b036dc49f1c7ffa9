/- The statements of deps: what is done has all done that it names, by reckoning. -/
import Derived.Test.YtkcgmjjngpppdaaDepM
namespace Cw
open Go Vc
open Go.Proofs
set_option maxRecDepth 100000
theorem chQ_rd {Q : List QC} {i : Nat} (h : i < Q.length) : Vc.rowAt (fcs chQ Q) ((i : Int).toNat * 4) [iT Q[i].1, iT Q[i].2.1, .i .u8 Q[i].2.2.1, .raw (.slice Q[i].2.2.2.1 Q[i].2.2.2.2.1 Q[i].2.2.2.2.2)] :=
  have g := fun (j : Nat) (u : Value) (hu : (chQ Q[i])[j]? = some u) => fcs_at (c := 4) chQ_len h hu
  ⟨g 0 _ rfl, g 1 _ rfl, g 2 _ rfl, g 3 _ rfl, trivial⟩
theorem ahQ_rd {A : List (List Int × Option Addr × Nat)} {i : Nat} (h : i < A.length) : (fcs ahQ A)[(i : Int).toNat * 1]? = some (.slice A[i].2.1 A[i].1.length A[i].2.2) := fcs_at (c := 1) (j := 0) ahQ_len h rfl
theorem isR_at {R : List Ch} (h : numd R) {i : Nat} (hi : i < R.length) : isR' R ((i : Int) + 1) = R[i].st := by
  rw [isR', if_pos (by omega), h.st (by omega) (by omega)]
  have e : ((i : Int) + 1).toNat - 1 = i := by omega
  simp only [e]
theorem isR_ah {R : List Ch} (h : DepOk R) {c : Ch} (hc : c ∈ R) (h0 : c.st = 0) {n : Int} (hn : n ∈ c.ah) : isR' R n = 0 := by
  unfold isR'
  split
  · exact h.cls c hc h0 n hn
  · rfl
theorem nm_ptr {φ : AbP} {H : HL} {d b : Nat} {b1 : Bool} {O : List (Bool × Ob)} {k : Nat} (hd : lookH H d = some (b1, .ab φ)) (hp : Pins φ (ptr b)) (hO : O[k]? = some (false, .pin 0 b)) : ∀ e e1 w, MemOk H e w → MemOk (newsH 0 O) e1 w → (TV.c (.nm d)).den e = CV.den e1 (.p 0 0) := by
  intro e e1 w M M1
  have h1 := hp _ _ _ (M.ob d b1 _ hd).1.1
  have h2 : e1.blk 0 = b := (M1.ob k false (.pin 0 b) (by rw [lookH_newsH, if_pos (Nat.zero_le _), Nat.sub_zero]; exact hO)).1.2
  show e.val d = .pointer (some ⟨e1.blk 0, 0, none⟩)
  rw [h1, h2]
  rfl
section
variable {H : HL} {nx d q b bd r : Nat} {b1 : Bool} {V : DV} {W : List (List Int × Option Addr × Nat)} {R : List Ch}
theorem is0 (hd : lookH H d = some (b1, .ab (depP V R.length b))) (h : DR V W R) (n : Int) :
    FnH Try.prog 27 [.c (.nm d), .c (iT n)] H nx ⟨.tup [.c (iT (isR' R n)), .c (iT (isE' R.length n))], [], [], []⟩ := by
  have := fnh_in (nx := nx) (u := .c (.nm d)) (bs := [.c (iT n)]) (O := depO V R.length b) (x := .p 0 0) (y := .p 0 0) (v' := .tup [.c (iT (isR (chs V) R.length n)), .c (iT (isE' R.length n))]) (news' := []) hd rfl rfl rfl rfl rfl (nm_ptr (k := 2) hd (dep_pins _ _ _) rfl) (IsU (d := 0) (l := 1) n rfl rfl h.ok.zz h.ok.srt h.ok.no (by have := h.z; omega))
  rw [h.is] at this
  exact this
def hRn (x : RunSt) (n bd : Nat) : HL := [(0, some (false, .cells (.nm 1 :: (x.D.map CV.s ++ (x.F.map CV.s ++ [.nm 3, .nm 4]))) 61)), (1, some (false, .ab (depP x.V (n : Int) bd))), (2, some (false, .ab (frzP x.W))), (3, some (false, .own 64 4 x.Q.length (fcs chQ x.Q))), (4, some (false, .own 33 1 x.A.length (fcs ahQ x.A)))]
set_option maxRecDepth 100000 in
set_option maxHeartbeats 8000000 in
theorem closedU {x : RunSt} (ok : RunOk x R) (hsml : R.length ≤ 500) :
    FnH Try.prog 32 [.c (.p 0 0)] (newsH 0 (runO x R.length b bd)) 6 ⟨.t (.c (.b true)), [], [], []⟩ := by
  obtain ⟨V, W, D, F, Q, A⟩ := x
  obtain ⟨hdr, hov, hob, hdk, hql, hal, haw, hqq, ha, hlen⟩ := ok
  simp only at hdr hdk hql hal haw hqq ha hlen
  have hlens : ∀ y ∈ A, y.1.length ≤ 100000000000000 := hlen
  obtain ⟨d0, d1, d2, d3, d4, d5, d6, d7, rfl⟩ := eight hdk.d8
  obtain ⟨f0, f1, f2, f3, f4, f5, f6, f7, rfl⟩ := eight hdk.f8
  refine fnR (fn := Try.f32) 101 rfl rfl rfl (args' := [.c (.p 0 0)]) (H' := hRn ⟨V, W, [d0, d1, d2, d3, d4, d5, d6, d7], [f0, f1, f2, f3, f4, f5, f6, f7], Q, A⟩ R.length bd) (nx' := 6) (fun e w M => ⟨_, mem_rd (fun n => n) (H' := hRn ⟨V, W, [d0, d1, d2, d3, d4, d5, d6, d7], [f0, f1, f2, f3, f4, f5, f6, f7], Q, A⟩ R.length bd) ⟨⟨true, rfl⟩, ⟨true, rfl⟩, ⟨true, rfl⟩, ⟨true, rfl⟩, ⟨true, rfl⟩, trivial⟩ M, rfl⟩) rfl rfl rfl rfl fun w => ?_
  show At _ _ _ _ _ _ [(0, some (false, .cells [.nm 1, .s d0, .s d1, .s d2, .s d3, .s d4, .s d5, .s d6, .s d7, .s f0, .s f1, .s f2, .s f3, .s f4, .s f5, .s f6, .s f7, .nm 3, .nm 4] 61)), (1, some (false, .ab (depP V (R.length : Nat) bd))), (2, some (false, .ab (frzP W))), (3, some (false, .own 64 4 Q.length (fcs chQ Q))), (4, some (false, .own 33 1 A.length (fcs ahQ A)))] 6
  refine rn [] rfl (by repeat' (first | exact trivial | exact rfl | refine And.intro ?_ ?_)) ?_
  refine At.loop (X := (i : Nat) ×' (i ≤ Q.length)) 6 (fun x => Q.length - x.1)
    (fun x => [(0, .t (.c (.p 0 0))), (18, .t (.c (.nm 3))), (19, .t (.c (iT (Q.length : Nat)))), (20, .t (.c (iT (x.1 : Nat))))])
    (fun _ => [(0, some (false, .cells [.nm 1, .s d0, .s d1, .s d2, .s d3, .s d4, .s d5, .s d6, .s d7, .s f0, .s f1, .s f2, .s f3, .s f4, .s f5, .s f6, .s f7, .nm 3, .nm 4] 61)), (1, some (false, .ab (depP V (R.length : Nat) bd))), (2, some (false, .ab (frzP W))), (3, some (false, .own 64 4 Q.length (fcs chQ Q))), (4, some (false, .own 33 1 A.length (fcs ahQ A)))]) ⟨0, by omega⟩ [] (fun x => wf rfl rfl) (by repeat' (first | exact trivial | exact rfl | refine And.intro ?_ ?_)) (by repeat' (first | exact trivial | exact rfl | refine And.intro ?_ ?_)) rfl fun x => ?_
  obtain ⟨i, hi⟩ := x
  have w3 : IntKind.i64.wrap ((i : Int) + 1) = ((i + 1 : Nat) : Int) := by rw [wrap_sm (by omega) (by omega)]; omega
  refine rn [] rfl (by repeat' (first | exact trivial | exact rfl | refine And.intro ?_ ?_)) ?_
  refine ⟨fun h => ?_, fun h => ?_⟩
  · have hlt : i < Q.length := by have : (i : Int) < (Q.length : Int) := of_decide_eq_true h; omega
    clear h
    have hlR : i < R.length := by omega
    have hlA : i < A.length := by omega
    have r1 := chQ_rd hlt
    have b0 : (0 : Int) ≤ (i : Int) := by omega
    have b1 : (i : Int) < (Q.length : Int) := by omega
    have c5 : (i : Int).toNat * 4 < (fcs chQ Q).length := by rw [fcs_length chQ_len]; omega
    have hI := fun (H : HL) (nx : Nat) (h1 : lookH H 1 = some (false, .ab (depP V (R.length : Nat) bd))) => is0 (nx := nx) h1 hdr (IntKind.i64.wrap ((i : Int) + 1))
    have hst : isR' R (IntKind.i64.wrap ((i : Int) + 1)) = R[i].st := by rw [w3]; exact isR_at hdr.dep.num hlR
    rw [hst] at hI
    obtain ⟨t1, t2, t3⟩ := hqq i hlR hlt
    cases hs : R[i].st != 0 with
    | true =>
      refine rn [(24, .ld [iT Q[i].1, iT Q[i].2.1, .i .u8 Q[i].2.2.1, .raw (.slice Q[i].2.2.2.1 Q[i].2.2.2.2.1 Q[i].2.2.2.2.2)]), (32, .spec ⟨.tup [.c (iT R[i].st), .c (iT (isE' R.length (IntKind.i64.wrap ((i : Int) + 1))))], [], [], []⟩), (36, .dec true)] rfl (by (repeat' (first | exact trivial | exact rfl | exact trivial | exact fun _ => trivial | first | exact hI _ _ rfl | exact r1 | exact b0 | exact b1 | exact c5 | exact hs | decide | refine And.intro ?_ ?_))) ?_
      exact roundEnd ⟨i + 1, by omega⟩ [] (by show Q.length - (i + 1) < Q.length - i; omega) (by (repeat' (first | exact trivial | exact rfl | exact w3 | exact fun _ => w3 | refine And.intro ?_ ?_))) (by repeat' (first | exact trivial | exact rfl | refine And.intro ?_ ?_)) rfl
    | false =>
      have hs0 : R[i].st = 0 := by simpa using hs
      have e5 := ahQ_rd hlA
      have c6 : (i : Int) < (A.length : Int) := by omega
      refine rn [(24, .ld [iT Q[i].1, iT Q[i].2.1, .i .u8 Q[i].2.2.1, .raw (.slice Q[i].2.2.2.1 Q[i].2.2.2.2.1 Q[i].2.2.2.2.2)]), (32, .spec ⟨.tup [.c (iT R[i].st), .c (iT (isE' R.length (IntKind.i64.wrap ((i : Int) + 1))))], [], [], []⟩), (36, .dec false), (43, .ld [.raw (.slice A[i].2.1 A[i].1.length A[i].2.2)])] rfl (by (repeat' (first | exact trivial | exact rfl | exact trivial | exact fun _ => trivial | first | exact hI _ _ rfl | exact r1 | exact b0 | exact b1 | exact c5 | exact hs | exact e5 | exact ⟨e5, trivial⟩ | exact c6 | decide | refine And.intro ?_ ?_))) ?_
      refine At.rawF (xs := A[i].1) (A := A[i].2.1) (m := A[i].2.2) 43 2 rfl (haw _ (List.getElem_mem hlA)) rfl ?_
      have zA : A[i].1.length ≤ 100000000000000 := by
        have h1 := hdr.dep
        exact hlens _ (List.getElem_mem hlA)
      refine At.loop (X := (k : Nat) ×' (k ≤ A[i].1.length)) 8 (fun x => A[i].1.length - x.1)
        (fun x => [(0, .t (.c (.p 0 0))), (3, .t (.c (iT (i : Nat)))), (4, .t (.c (.p 6 0))), (18, .t (.c (.nm 3))), (19, .t (.c (iT (Q.length : Nat)))), (20, .t (.c (iT (i : Nat)))), (43, .t (.c (.nm 7))), (44, .t (.c (iT (A[i].1.length : Nat)))), (45, .t (.c (iT (x.1 : Nat))))])
        (fun _ => [(0, some (false, .cells [.nm 1, .s d0, .s d1, .s d2, .s d3, .s d4, .s d5, .s d6, .s d7, .s f0, .s f1, .s f2, .s f3, .s f4, .s f5, .s f6, .s f7, .nm 3, .nm 4] 61)), (1, some (false, .ab (depP V (R.length : Nat) bd))), (2, some (false, .ab (frzP W))), (3, some (false, .own 64 4 Q.length (fcs chQ Q))), (4, some (false, .own 33 1 A.length (fcs ahQ A))), (6, some (true, .cells [iT Q[i].1, iT Q[i].2.1, .i .u8 Q[i].2.2.1, .raw (.slice Q[i].2.2.2.1 Q[i].2.2.2.2.1 Q[i].2.2.2.2.2)] 64)), (7, some (false, .rd 1 A[i].1.length (ivs A[i].1)))]) ⟨0, by omega⟩ [] (fun x => wf rfl rfl) (by repeat' (first | exact trivial | exact rfl | refine And.intro ?_ ?_)) (by repeat' (first | exact trivial | exact rfl | refine And.intro ?_ ?_)) rfl fun x => ?_
      obtain ⟨k, hk⟩ := x
      have w4 : IntKind.i64.wrap ((k : Int) + 1) = ((k + 1 : Nat) : Int) := by rw [wrap_sm (by omega) (by omega)]; omega
      refine rn [] rfl (by repeat' (first | exact trivial | exact rfl | refine And.intro ?_ ?_)) ?_
      refine ⟨fun h => ?_, fun h => ?_⟩
      · have hkl : k < A[i].1.length := by have : (k : Int) < (A[i].1.length : Int) := of_decide_eq_true h; omega
        have e1 : (ivs A[i].1)[(k : Int).toNat * 1]? = some (.int .i64 A[i].1[k]) := by simpa using ivs_at hkl
        have d0 : (0 : Int) ≤ (k : Int) := by omega
        have d1 : (k : Int) < (A[i].1.length : Int) := by omega
        have hIk := fun (H : HL) (nx : Nat) (h1 : lookH H 1 = some (false, .ab (depP V (R.length : Nat) bd))) => is0 (nx := nx) h1 hdr A[i].1[k]
        rw [isR_ah hdr.dep (List.getElem_mem hlR) hs0 (ha i hlR hlA _ (List.getElem_mem hkl))] at hIk
        refine rn [(48, .ld [iT A[i].1[k]]), (55, .spec ⟨.tup [.c (iT 0), .c (iT (isE' R.length A[i].1[k]))], [], [], []⟩), (59, .dec false)] rfl (by (repeat' (first | exact trivial | exact rfl | exact trivial | exact fun _ => trivial | first | exact hIk _ _ rfl | exact e1 | exact ⟨e1, trivial⟩ | exact d0 | exact d1 | rfl | decide | refine And.intro ?_ ?_))) ?_
        exact roundEnd ⟨k + 1, by omega⟩ [] (by show A[i].1.length - (k + 1) < A[i].1.length - k; omega) (by (repeat' (first | exact trivial | exact rfl | exact w4 | exact fun _ => w4 | refine And.intro ?_ ?_))) (by repeat' (first | exact trivial | exact rfl | refine And.intro ?_ ?_)) rfl
      · refine rn [] rfl (by repeat' (first | exact trivial | exact rfl | refine And.intro ?_ ?_)) (roundExit rfl ?_)
        have c7 : (i : Int) ≤ (Q.length : Int) := by omega
        have c8 : i ≤ Q.length := hi
        refine rnA [] rfl (by (repeat' (first | exact trivial | exact rfl | exact trivial | exact fun _ => trivial | first | exact b0 | exact c7 | exact c8 | refine And.intro ?_ ?_))) ?_
        refine At.loop (X := (k : Nat) ×' (k ≤ i)) 8 (fun x => i - x.1)
          (fun x => [(0, .t (.c (.p 0 0))), (4, .t (.c (.p 6 0))), (18, .t (.c (.nm 3))), (19, .t (.c (iT (Q.length : Nat)))), (20, .t (.c (iT (i : Nat)))), (66, .t (.c (.sub 3 0 0 i))), (67, .t (.c (iT (i : Nat)))), (68, .t (.c (iT (x.1 : Nat))))])
          (fun _ => [(0, some (false, .cells [.nm 1, .s d0, .s d1, .s d2, .s d3, .s d4, .s d5, .s d6, .s d7, .s f0, .s f1, .s f2, .s f3, .s f4, .s f5, .s f6, .s f7, .nm 3, .nm 4] 61)), (1, some (false, .ab (depP V (R.length : Nat) bd))), (2, some (false, .ab (frzP W))), (3, some (false, .own 64 4 Q.length (fcs chQ Q))), (4, some (false, .own 33 1 A.length (fcs ahQ A))), (6, some (true, .cells [iT Q[i].1, iT Q[i].2.1, .i .u8 Q[i].2.2.1, .raw (.slice Q[i].2.2.2.1 Q[i].2.2.2.2.1 Q[i].2.2.2.2.2)] 64))]) ⟨0, by omega⟩ [] (fun x => wf rfl rfl) (by repeat' (first | exact trivial | exact rfl | refine And.intro ?_ ?_)) (by repeat' (first | exact trivial | exact rfl | refine And.intro ?_ ?_)) rfl fun x => ?_
        obtain ⟨k, hk⟩ := x
        have w4 : IntKind.i64.wrap ((k : Int) + 1) = ((k + 1 : Nat) : Int) := by rw [wrap_sm (by omega) (by omega)]; omega
        refine rn [] rfl (by repeat' (first | exact trivial | exact rfl | refine And.intro ?_ ?_)) ?_
        refine ⟨fun h => ?_, fun h => ?_⟩
        · have hki : k < i := by have : (k : Int) < (i : Int) := of_decide_eq_true h; omega
          have hkQ : k < Q.length := by omega
          have hkR : k < R.length := by omega
          have q1 := chQ_rd hkQ
          rw [← Nat.zero_add ((k : Int).toNat * 4)] at q1
          have d0 : (0 : Int) ≤ (k : Int) := by omega
          have d1 : (k : Int) < (i : Int) := by omega
          have d2 : 0 + (k : Int).toNat * 4 < (fcs chQ Q).length := by rw [fcs_length chQ_len]; omega
          have d3 : (k : Int) < (Q.length : Int) := by omega
          have d4 : 0 + i ≤ Q.length := by omega
          have hIk := fun (H : HL) (nx : Nat) (h1 : lookH H 1 = some (false, .ab (depP V (R.length : Nat) bd))) => is0 (nx := nx) h1 hdr (IntKind.i64.wrap ((k : Int) + 1))
          have hsk : isR' R (IntKind.i64.wrap ((k : Int) + 1)) = R[k].st := by rw [w4]; exact isR_at hdr.dep.num hkR
          rw [hsk] at hIk
          obtain ⟨u1, u2, u3⟩ := hqq k hkR hkQ
          have hsame : Q[k].1 = Q[i].1 → Q[k].2.1 = Q[i].2.1 → R[k].st = 0 := fun a1 a2 => by
            by_cases hz : R[k].st = 0
            · exact hz
            · have h1 := hov _ (List.getElem_mem hlR) _ (List.getElem_mem hkR) (by rw [hdr.dep.num k hkR, hdr.dep.num i hlR]; omega) (by rw [u1, t1, a1]) (by rw [u2, t2, a2]) hz
              have h2 := hdr.dep.cls _ (List.getElem_mem hlR) hs0 _ h1
              rw [stOf_mem hdr.nd (List.getElem_mem hkR)] at h2
              exact absurd h2 hz
          cases e1 : Q[k].1 == Q[i].1 with
          | false =>
            refine rn [(72, .ld [iT Q[k].1, iT Q[k].2.1, .i .u8 Q[k].2.2.1, .raw (.slice Q[k].2.2.2.1 Q[k].2.2.2.2.1 Q[k].2.2.2.2.2)]), (80, .spec ⟨.tup [.c (iT R[k].st), .c (iT (isE' R.length (IntKind.i64.wrap ((k : Int) + 1))))], [], [], []⟩), (88, .dec false), (95, .dec false), (98, .dec false)] rfl (by (repeat' (first | exact trivial | exact rfl | exact trivial | exact fun _ => trivial | first | exact hIk _ _ rfl | exact q1 | exact d0 | exact d1 | exact d2 | exact d3 | exact d4 | exact e1 | rfl | decide | refine And.intro ?_ ?_))) ?_
            exact roundEnd ⟨k + 1, by omega⟩ [] (by show i - (k + 1) < i - k; omega) (by (repeat' (first | exact trivial | exact rfl | exact w4 | exact fun _ => w4 | refine And.intro ?_ ?_))) (by repeat' (first | exact trivial | exact rfl | refine And.intro ?_ ?_)) rfl
          | true =>
            cases e2 : Q[k].2.1 == Q[i].2.1 with
            | false =>
              refine rn [(72, .ld [iT Q[k].1, iT Q[k].2.1, .i .u8 Q[k].2.2.1, .raw (.slice Q[k].2.2.2.1 Q[k].2.2.2.2.1 Q[k].2.2.2.2.2)]), (80, .spec ⟨.tup [.c (iT R[k].st), .c (iT (isE' R.length (IntKind.i64.wrap ((k : Int) + 1))))], [], [], []⟩), (88, .dec true), (95, .dec false), (98, .dec false)] rfl (by (repeat' (first | exact trivial | exact rfl | exact trivial | exact fun _ => trivial | first | exact hIk _ _ rfl | exact q1 | exact d0 | exact d1 | exact d2 | exact d3 | exact d4 | exact e1 | exact e2 | rfl | decide | refine And.intro ?_ ?_))) ?_
              exact roundEnd ⟨k + 1, by omega⟩ [] (by show i - (k + 1) < i - k; omega) (by (repeat' (first | exact trivial | exact rfl | exact w4 | exact fun _ => w4 | refine And.intro ?_ ?_))) (by repeat' (first | exact trivial | exact rfl | refine And.intro ?_ ?_)) rfl
            | true =>
              have e3 : (R[k].st != 0) = false := by rw [hsame (by simpa using e1) (by simpa using e2)]; rfl
              refine rn [(72, .ld [iT Q[k].1, iT Q[k].2.1, .i .u8 Q[k].2.2.1, .raw (.slice Q[k].2.2.2.1 Q[k].2.2.2.2.1 Q[k].2.2.2.2.2)]), (80, .spec ⟨.tup [.c (iT R[k].st), .c (iT (isE' R.length (IntKind.i64.wrap ((k : Int) + 1))))], [], [], []⟩), (88, .dec true), (95, .dec true), (98, .dec false)] rfl (by (repeat' (first | exact trivial | exact rfl | exact trivial | exact fun _ => trivial | first | exact hIk _ _ rfl | exact q1 | exact d0 | exact d1 | exact d2 | exact d3 | exact d4 | exact e1 | exact e2 | exact e3 | rfl | decide | refine And.intro ?_ ?_))) ?_
              exact roundEnd ⟨k + 1, by omega⟩ [] (by show i - (k + 1) < i - k; omega) (by (repeat' (first | exact trivial | exact rfl | exact w4 | exact fun _ => w4 | refine And.intro ?_ ?_))) (by repeat' (first | exact trivial | exact rfl | refine And.intro ?_ ?_)) rfl
        · refine rn [] rfl (by repeat' (first | exact trivial | exact rfl | refine And.intro ?_ ?_)) (roundExit rfl ?_)
          refine rnA [] rfl (by repeat' (first | exact trivial | exact rfl | refine And.intro ?_ ?_)) ?_
          exact roundEnd ⟨i + 1, by omega⟩ [] (by show Q.length - (i + 1) < Q.length - i; omega) (by (repeat' (first | exact trivial | exact rfl | exact w3 | exact fun _ => w3 | refine And.intro ?_ ?_))) (by repeat' (first | exact trivial | exact rfl | refine And.intro ?_ ?_)) rfl
  · refine rn [] rfl (by repeat' (first | exact trivial | exact rfl | refine And.intro ?_ ?_)) (roundExit rfl ?_)
    refine rnA [] rfl (by repeat' (first | exact trivial | exact rfl | refine And.intro ?_ ?_)) ?_
    exact ret0 tysOk rfl (by repeat' (first | exact trivial | exact rfl | refine And.intro ?_ ?_)) rfl
theorem closed0 {br : Bool} {x : RunSt} (hr : lookH H r = some (br, .ab (runP x R.length b bd))) (ok : RunOk x R) (hsml : R.length ≤ 500) :
    FnH Try.prog 32 [.c (.nm r)] H nx ⟨.t (.c (.b true)), [], [], []⟩ := by
  obtain ⟨V, W, D, F, Q, A⟩ := x
  obtain ⟨d0, d1, d2, d3, d4, d5, d6, d7, rfl⟩ := eight ok.dk.d8
  obtain ⟨f0, f1, f2, f3, f4, f5, f6, f7, rfl⟩ := eight ok.dk.f8
  exact fnh_in (nx := nx) (u := .c (.nm r)) (bs := []) (O := runO ⟨V, W, [d0, d1, d2, d3, d4, d5, d6, d7], [f0, f1, f2, f3, f4, f5, f6, f7], Q, A⟩ R.length b bd) (x := .p 0 0) (y := .p 0 0) (v' := .t (.c (.b true))) (news' := []) hr rfl rfl rfl rfl rfl (nm_ptr (k := 5) hr (run_pins _ _ _ _) rfl) (closedU ok hsml)
end
end Cw
namespace Cw
open Go Vc
open Go.Proofs
set_option maxRecDepth 100000
def svY (l : List ByteArray) : List Value := l.map Value.string
theorem set_svY {l : List ByteArray} {k : Nat} {x : ByteArray} (h : k < l.length) : Vc.setAt (svY l) (k * 1) [Value.string x] = svY (l.set k x) := by
  rw [Nat.mul_one, setAt_one (by simpa [svY] using h), svY, svY, List.map_set]
theorem imgB_app (l m : List Ch) (s : List UInt8) : imgB (l ++ m) s = imgB m (imgB l s) := by rw [imgB, List.foldl_append]; rfl
/-- The bytes of a sector's changes of a kind. -/
def gB (p : Ch → Bool) (R : List Ch) (k : Int) : List UInt8 := imgB (R.filter fun c => c.at' == k && p c) zB
theorem gB_len (p : Ch → Bool) (R : List Ch) (k : Int) : (gB p R k).length = 64 := by rw [gB, imgB_len, zB_len]
theorem gB_succ (p : Ch → Bool) {R : List Ch} {i : Nat} (h : i < R.length) (k : Int) : gB p (R.take (i + 1)) k = if (R[i].at' == k && p R[i]) = true then imgB [R[i]] (gB p (R.take i) k) else gB p (R.take i) k := by
  rw [gB, List.take_succ_eq_append_getElem h, List.filter_append, imgB_app, ← gB]
  split
  · rename_i h1
    rw [filt1 (fun c : Ch => c.at' == k && p c) h1]
  · rename_i h1
    rw [filt0 (fun c : Ch => c.at' == k && p c) h1]
    rfl
def arB (p : Ch → Bool) (R : List Ch) : List ByteArray := (List.range 8).map fun k : Nat => S (gB p R (k : Int))
theorem arB_len (p : Ch → Bool) (R : List Ch) : (arB p R).length = 8 := by simp [arB]
theorem arB_at (p : Ch → Bool) (R : List Ch) {a : Int} (h : 0 ≤ a ∧ a < 8) : (svY (arB p R))[a.toNat * 1]? = some (.string (S (gB p R a))) := by
  have h1 : a.toNat < 8 := by omega
  have h2 : ((a.toNat : Nat) : Int) = a := by omega
  simp [svY, arB, h1, h2]
theorem arB_set (p : Ch → Bool) {R : List Ch} {i : Nat} (h : i < R.length) (hp : p R[i] = true) (ha : 0 ≤ R[i].at' ∧ R[i].at' < 8) : (arB p (R.take i)).set R[i].at'.toNat (S (imgB [R[i]] (gB p (R.take i) R[i].at'))) = arB p (R.take (i + 1)) := by
  apply List.ext_getElem
  · simp [arB]
  · intro k h1 h2
    have hk : k < 8 := by simpa [arB] using h2
    rw [List.getElem_set]
    simp only [arB, List.getElem_map, List.getElem_range]
    rw [gB_succ p h, hp, Bool.and_true]
    by_cases hc : R[i].at'.toNat = k
    · have hc' : R[i].at' = (k : Int) := by omega
      rw [if_pos hc, if_pos (by simpa using hc'), hc']
    · have hc' : R[i].at' ≠ (k : Int) := by omega
      rw [if_neg hc, if_neg (by simpa using hc')]
theorem arB_same (p : Ch → Bool) {R : List Ch} {i : Nat} (h : i < R.length) (hp : p R[i] = false) : arB p (R.take (i + 1)) = arB p (R.take i) := by
  refine List.map_congr_left fun k _ => ?_
  rw [gB_succ p h, hp, Bool.and_false, if_neg (by decide)]
def pAll : Ch → Bool := fun _ => true
def pDn : Ch → Bool := fun c => c.st == 0
theorem gB_all (R : List Ch) (k : Int) : gB pAll R k = alB R k := by
  rw [gB, alB]
  congr 2
  funext c
  exact Bool.and_true _
theorem gB_dn (R : List Ch) (k : Int) : gB pDn R k = dkB R k := rfl
theorem arB_nil (p : Ch → Bool) : arB p [] = List.replicate 8 B0 := rfl
theorem same_txt (x : ByteArray) : (!x.toList == x.toList) = false := by simp
section
variable {H : HL} {nx d q b bd r : Nat} {b1 : Bool} {V : DV} {W : List (List Int × Option Addr × Nat)} {R : List Ch}
theorem view0 (hd : lookH H d = some (b1, .ab (depP V R.length b))) (h : DR V W R) (k : Int) (s : ByteArray) (hs : s.size ≤ 9223372036854775807) :
    FnH Try.prog 13 [.c (.nm d), .c (iT k), .c (.s s)] H nx ⟨.tup [.c (.s (pt s (vwP R k))), .c (iT (pte s (vwP R k)))], [], [], []⟩ := by
  have := fnh_in (nx := nx) (u := .c (.nm d)) (bs := [.c (iT k), .c (.s s)]) (O := depO V R.length b) (x := .p 0 0) (y := .p 0 0) (v' := .tup [.c (.s (pt s ((vwI (chs V) k).map (chP (chs V))))), .c (iT (pte s ((vwI (chs V) k).map (chP (chs V)))))]) (news' := []) hd rfl rfl rfl rfl rfl (nm_ptr (k := 2) hd (dep_pins _ _ _) rfl) (ViewU (d := 0) (l := 1) rfl rfl h.ok k s hs)
  rw [h.vw] at this
  exact this
/-- What is seen of a sector. -/
theorem viewK (hd : lookH H d = some (b1, .ab (depP V R.length b))) (h : DR V W R) (hov : overOk R) (hob : okB R) (hsml : R.length ≤ 1000) (k : Int) :
    FnH Try.prog 13 [.c (.nm d), .c (iT k), .c (.s (S (dkB R k)))] H nx ⟨.tup [.c (.s (S (alB R k))), .c (iT 0)], [], [], []⟩ := by
  have h1 := view0 (nx := nx) hd h k (S (dkB R k)) (by rw [S_size, dkB_len]; decide)
  have h2 := pt_img (cs := R.filter fun c => c.at' == k && c.st != 0) (hob.filter _) (by have := List.length_filter_le (fun c : Ch => c.at' == k && c.st != 0) R; omega) (s := S (dkB R k)) (by rw [S_size, dkB_len])
  have h3 : pt (S (dkB R k)) (vwP R k) = S (alB R k) := h2.1.trans (by rw [S_list, dkB, seen_all h.dep hov]; rfl)
  have h4 : pte (S (dkB R k)) (vwP R k) = 0 := h2.2
  rw [h3, h4] at h1
  exact h1
theorem eightD {D F : List ByteArray} (h : DkOk D F R) : D = [S (dkB R 0), S (dkB R 1), S (dkB R 2), S (dkB R 3), S (dkB R 4), S (dkB R 5), S (dkB R 6), S (dkB R 7)] := by
  obtain ⟨d0, d1, d2, d3, d4, d5, d6, d7, rfl⟩ := eight h.d8
  have g := h.dk
  rw [← show d0 = S (dkB R 0) from g 0 (by show 0 < 8; decide), ← show d1 = S (dkB R 1) from g 1 (by show 1 < 8; decide), ← show d2 = S (dkB R 2) from g 2 (by show 2 < 8; decide), ← show d3 = S (dkB R 3) from g 3 (by show 3 < 8; decide), ← show d4 = S (dkB R 4) from g 4 (by show 4 < 8; decide), ← show d5 = S (dkB R 5) from g 5 (by show 5 < 8; decide), ← show d6 = S (dkB R 6) from g 6 (by show 6 < 8; decide), ← show d7 = S (dkB R 7) from g 7 (by show 7 < 8; decide)]
set_option maxRecDepth 100000 in
set_option maxHeartbeats 8000000 in
theorem seenU {x : RunSt} (ok : RunOk x R) (hsml : R.length ≤ 500) :
    FnH Try.prog 33 [.c (.p 0 0)] (newsH 0 (runO x R.length b bd)) 6 ⟨.t (.c (.b true)), [], [], []⟩ := by
  obtain ⟨V, W, D, F, Q, A⟩ := x
  obtain ⟨hdr, hov, hob, hdk, hql, hal, haw, hqq, ha, hlen⟩ := ok
  simp only at hdr hdk hql hal haw hqq ha hlen
  have hD8 := eightD hdk
  obtain ⟨f0, f1, f2, f3, f4, f5, f6, f7, rfl⟩ := eight hdk.f8
  subst hD8
  refine fnR (fn := Try.f33) 120 rfl rfl rfl (args' := [.c (.p 0 0)]) (H' := hRn ⟨V, W, [S (dkB R 0), S (dkB R 1), S (dkB R 2), S (dkB R 3), S (dkB R 4), S (dkB R 5), S (dkB R 6), S (dkB R 7)], [f0, f1, f2, f3, f4, f5, f6, f7], Q, A⟩ R.length bd) (nx' := 6) (fun e w M => ⟨_, mem_rd (fun n => n) (H' := hRn ⟨V, W, [S (dkB R 0), S (dkB R 1), S (dkB R 2), S (dkB R 3), S (dkB R 4), S (dkB R 5), S (dkB R 6), S (dkB R 7)], [f0, f1, f2, f3, f4, f5, f6, f7], Q, A⟩ R.length bd) ⟨⟨true, rfl⟩, ⟨true, rfl⟩, ⟨true, rfl⟩, ⟨true, rfl⟩, ⟨true, rfl⟩, trivial⟩ M, rfl⟩) rfl rfl rfl rfl fun w => ?_
  show At _ _ _ _ _ _ [(0, some (false, .cells [.nm 1, .s (S (dkB R 0)), .s (S (dkB R 1)), .s (S (dkB R 2)), .s (S (dkB R 3)), .s (S (dkB R 4)), .s (S (dkB R 5)), .s (S (dkB R 6)), .s (S (dkB R 7)), .s f0, .s f1, .s f2, .s f3, .s f4, .s f5, .s f6, .s f7, .nm 3, .nm 4] 61)), (1, some (false, .ab (depP V (R.length : Nat) bd))), (2, some (false, .ab (frzP W))), (3, some (false, .own 64 4 Q.length (fcs chQ Q))), (4, some (false, .own 33 1 A.length (fcs ahQ A)))] 6
  refine rn [] rfl (by repeat' (first | exact trivial | exact rfl | refine And.intro ?_ ?_)) ?_
  refine At.unroll ?_
  refine rn [(14, .dec true), (18, .ret (.t (.c (.s B0)))), (19, .ret (.t (.c (.s B0))))] rfl (by (repeat' (first | exact trivial | exact rfl | exact blank0 | exact fun _ => blank0 | first | exact blank0 | decide | refine And.intro ?_ ?_))) (nextRound ?_)
  refine rn [(14, .dec true), (18, .ret (.t (.c (.s B0)))), (19, .ret (.t (.c (.s B0))))] rfl (by (repeat' (first | exact trivial | exact rfl | exact blank0 | exact fun _ => blank0 | first | exact blank0 | decide | refine And.intro ?_ ?_))) (nextRound ?_)
  refine rn [(14, .dec true), (18, .ret (.t (.c (.s B0)))), (19, .ret (.t (.c (.s B0))))] rfl (by (repeat' (first | exact trivial | exact rfl | exact blank0 | exact fun _ => blank0 | first | exact blank0 | decide | refine And.intro ?_ ?_))) (nextRound ?_)
  refine rn [(14, .dec true), (18, .ret (.t (.c (.s B0)))), (19, .ret (.t (.c (.s B0))))] rfl (by (repeat' (first | exact trivial | exact rfl | exact blank0 | exact fun _ => blank0 | first | exact blank0 | decide | refine And.intro ?_ ?_))) (nextRound ?_)
  refine rn [(14, .dec true), (18, .ret (.t (.c (.s B0)))), (19, .ret (.t (.c (.s B0))))] rfl (by (repeat' (first | exact trivial | exact rfl | exact blank0 | exact fun _ => blank0 | first | exact blank0 | decide | refine And.intro ?_ ?_))) (nextRound ?_)
  refine rn [(14, .dec true), (18, .ret (.t (.c (.s B0)))), (19, .ret (.t (.c (.s B0))))] rfl (by (repeat' (first | exact trivial | exact rfl | exact blank0 | exact fun _ => blank0 | first | exact blank0 | decide | refine And.intro ?_ ?_))) (nextRound ?_)
  refine rn [(14, .dec true), (18, .ret (.t (.c (.s B0)))), (19, .ret (.t (.c (.s B0))))] rfl (by (repeat' (first | exact trivial | exact rfl | exact blank0 | exact fun _ => blank0 | first | exact blank0 | decide | refine And.intro ?_ ?_))) (nextRound ?_)
  refine rn [(14, .dec true), (18, .ret (.t (.c (.s B0)))), (19, .ret (.t (.c (.s B0))))] rfl (by (repeat' (first | exact trivial | exact rfl | exact blank0 | exact fun _ => blank0 | first | exact blank0 | decide | refine And.intro ?_ ?_))) (nextRound ?_)
  refine rn [(14, .dec false)] rfl (by (repeat' (first | exact trivial | exact rfl | exact trivial | exact fun _ => trivial | decide | refine And.intro ?_ ?_))) (nextExit rfl ?_)
  refine rnA [] rfl (by repeat' (first | exact trivial | exact rfl | refine And.intro ?_ ?_)) ?_
  refine At.loop (X := (i : Nat) ×' (i ≤ Q.length)) 8 (fun x => Q.length - x.1)
    (fun x => [(0, .t (.c (.p 0 0))), (3, .t (.c (.p 6 0))), (4, .t (.c (.p 7 0))), (26, .t (.c (.nm 3))), (27, .t (.c (iT (Q.length : Nat)))), (28, .t (.c (iT (x.1 : Nat))))])
    (fun x => [(0, some (false, .cells [.nm 1, .s (S (dkB R 0)), .s (S (dkB R 1)), .s (S (dkB R 2)), .s (S (dkB R 3)), .s (S (dkB R 4)), .s (S (dkB R 5)), .s (S (dkB R 6)), .s (S (dkB R 7)), .s f0, .s f1, .s f2, .s f3, .s f4, .s f5, .s f6, .s f7, .nm 3, .nm 4] 61)), (1, some (false, .ab (depP V (R.length : Nat) bd))), (3, some (false, .own 64 4 Q.length (fcs chQ Q))), (6, some (true, .row (svY (arB pAll (R.take x.1))) 58)), (7, some (true, .row (svY (arB pDn (R.take x.1))) 58))]) ⟨0, by omega⟩ [] (fun x => wf rfl rfl) (by repeat' (first | exact trivial | exact rfl | refine And.intro ?_ ?_)) (by (repeat' (first | exact trivial | exact rfl | exact trivial | exact fun _ => trivial | rfl | refine And.intro ?_ ?_))) rfl fun x => ?_
  obtain ⟨i, hi⟩ := x
  have w3 : IntKind.i64.wrap ((i : Int) + 1) = ((i + 1 : Nat) : Int) := by rw [wrap_sm (by omega) (by omega)]; omega
  refine rn [] rfl (by repeat' (first | exact trivial | exact rfl | refine And.intro ?_ ?_)) ?_
  refine ⟨fun h => ?_, fun h => ?_⟩
  · have hlt : i < Q.length := by have : (i : Int) < (Q.length : Int) := of_decide_eq_true h; omega
    clear h
    have hlR : i < R.length := by omega
    have r1 := chQ_rd hlt
    have b0 : (0 : Int) ≤ (i : Int) := by omega
    have b1 : (i : Int) < (Q.length : Int) := by omega
    have c5 : (i : Int).toNat * 4 < (fcs chQ Q).length := by rw [fcs_length chQ_len]; omega
    have hI := fun (H : HL) (nx : Nat) (h1 : lookH H 1 = some (false, .ab (depP V (R.length : Nat) bd))) => is0 (nx := nx) h1 hdr (IntKind.i64.wrap ((i : Int) + 1))
    have hst : isR' R (IntKind.i64.wrap ((i : Int) + 1)) = R[i].st := by rw [w3]; exact isR_at hdr.dep.num hlR
    rw [hst] at hI
    obtain ⟨t1, t2, t3⟩ := hqq i hlR hlt
    obtain ⟨a1, a2, _⟩ := hob _ (List.getElem_mem hlR)
    have hby := byteAt0 Q[i].2.1 Q[i].2.2.1
    have hone : ∀ p, pt (S (gB p (R.take i) Q[i].1)) [(Q[i].2.1, bt1 Q[i].2.2.1)] = S (imgB [R[i]] (gB p (R.take i) Q[i].1)) := fun p => by
      have := pt_img (cs := [R[i]]) (fun c hc => by rw [List.mem_singleton.1 hc]; exact hob _ (List.getElem_mem hlR)) (by simp) (s := S (gB p (R.take i) Q[i].1)) (by rw [S_size, gB_len])
      rw [← t2, ← t3]
      exact this.1
    have hpp : ∀ p ∈ [((Q[i].2.1, bt1 Q[i].2.2.1) : Pt)], p.2.size ≤ 9223372036854775807 := fun p hp => by rw [List.mem_singleton.1 hp]; show (bt1 _).size ≤ _; rw [bt1_size]; decide
    have hpt := fun (p : Ch → Bool) (H : HL) (nx k : Nat) (hk : lookH H k = some (true, .own 32 2 1 (pcells [(Q[i].2.1, bt1 Q[i].2.2.1)]))) => patched_own (nx := nx) (S (gB p (R.take i) Q[i].1)) [(Q[i].2.1, bt1 Q[i].2.2.1)] hpp (by rw [S_size, gB_len]; decide) hk rfl
    simp only [hone] at hpt
    rw [t1] at a1
    have c1 := arB_at pAll (R.take i) a1
    have c2 := arB_at pDn (R.take i) a1
    have hset1 := arB_set pAll hlR rfl (t1 ▸ a1)
    rw [t1] at hset1
    have hs1 : Vc.setAt (svY (arB pAll (R.take i))) (Q[i].1.toNat * 1) [Value.string (S (imgB [R[i]] (gB pAll (R.take i) Q[i].1)))] = svY (arB pAll (R.take (i + 1))) := by rw [set_svY (by rw [arB_len]; omega), hset1]
    have l1 : Q[i].1.toNat * 1 + 1 ≤ (svY (arB pAll (R.take i))).length := by rw [svY, List.length_map, arB_len]; omega
    have l2 : Q[i].1.toNat * 1 + 1 ≤ (svY (arB pDn (R.take i))).length := by rw [svY, List.length_map, arB_len]; omega
    rw [← Nat.zero_add (Q[i].1.toNat * 1)] at c1 c2 l1 l2 hs1
    have l0 : 0 ≤ Q[i].1 := a1.1
    have l8 : Q[i].1 < 8 := a1.2
    cases hs : R[i].st == 0 with
    | true =>
      have hset2 := arB_set pDn hlR hs (t1 ▸ a1)
      rw [t1] at hset2
      have hs2 : Vc.setAt (svY (arB pDn (R.take i))) (Q[i].1.toNat * 1) [Value.string (S (imgB [R[i]] (gB pDn (R.take i) Q[i].1)))] = svY (arB pDn (R.take (i + 1))) := by rw [set_svY (by rw [arB_len]; omega), hset2]
      rw [← Nat.zero_add (Q[i].1.toNat * 1)] at hs2
      refine rn [(32, .ld [iT Q[i].1, iT Q[i].2.1, .i .u8 Q[i].2.2.1, .raw (.slice Q[i].2.2.2.1 Q[i].2.2.2.2.1 Q[i].2.2.2.2.2)]), (39, .ld [.s (S (gB pAll (R.take i) Q[i].1))]), (44, .ret (.t (.agg [iT Q[i].2.1, .s (bt1 Q[i].2.2.1)]))), (45, .dec true), (46, .spec ⟨.tup [.c (.s (S (imgB [R[i]] (gB pAll (R.take i) Q[i].1)))), .c (iT (pte (S (gB pAll (R.take i) Q[i].1)) [(Q[i].2.1, bt1 Q[i].2.2.1)]))], [], [], []⟩), (57, .spec ⟨.tup [.c (iT R[i].st), .c (iT (isE' R.length (IntKind.i64.wrap ((i : Int) + 1))))], [], [], []⟩), (61, .dec true),
        (68, .ld [.s (S (gB pDn (R.take i) Q[i].1))]), (73, .ret (.t (.agg [iT Q[i].2.1, .s (bt1 Q[i].2.2.1)]))), (74, .dec true), (75, .spec ⟨.tup [.c (.s (S (imgB [R[i]] (gB pDn (R.take i) Q[i].1)))), .c (iT (pte (S (gB pDn (R.take i) Q[i].1)) [(Q[i].2.1, bt1 Q[i].2.2.1)]))], [], [], []⟩)] rfl
        (by (repeat' (first | exact trivial | exact rfl | exact trivial | exact fun _ => trivial | first | exact hI _ _ rfl | exact r1 | exact b0 | exact b1 | exact c5 | exact c1 | exact c2 | exact ⟨c1, trivial⟩ | exact ⟨c2, trivial⟩ | exact hby | exact hpt pAll _ _ _ rfl | exact hpt pDn _ _ _ rfl | exact hs | exact l0 | exact l8 | exact l1 | exact l2 | decide | refine And.intro ?_ ?_))) ?_
      exact roundEnd ⟨i + 1, by omega⟩ [] (by show Q.length - (i + 1) < Q.length - i; omega) (by (repeat' (first | exact trivial | exact rfl | exact w3 | exact fun _ => w3 | refine And.intro ?_ ?_))) (by (repeat' (first | exact trivial | exact rfl | exact trivial | exact fun _ => trivial | first | exact hs1 | exact hs2 | refine And.intro ?_ ?_))) rfl
    | false =>
      have hs2 := congrArg svY (arB_same pDn hlR hs)
      refine rn [(32, .ld [iT Q[i].1, iT Q[i].2.1, .i .u8 Q[i].2.2.1, .raw (.slice Q[i].2.2.2.1 Q[i].2.2.2.2.1 Q[i].2.2.2.2.2)]), (39, .ld [.s (S (gB pAll (R.take i) Q[i].1))]), (44, .ret (.t (.agg [iT Q[i].2.1, .s (bt1 Q[i].2.2.1)]))), (45, .dec true), (46, .spec ⟨.tup [.c (.s (S (imgB [R[i]] (gB pAll (R.take i) Q[i].1)))), .c (iT (pte (S (gB pAll (R.take i) Q[i].1)) [(Q[i].2.1, bt1 Q[i].2.2.1)]))], [], [], []⟩), (57, .spec ⟨.tup [.c (iT R[i].st), .c (iT (isE' R.length (IntKind.i64.wrap ((i : Int) + 1))))], [], [], []⟩), (61, .dec false)] rfl
        (by (repeat' (first | exact trivial | exact rfl | exact trivial | exact fun _ => trivial | first | exact hI _ _ rfl | exact r1 | exact b0 | exact b1 | exact c5 | exact c1 | exact c2 | exact ⟨c1, trivial⟩ | exact hby | exact hpt pAll _ _ _ rfl | exact hs | exact l0 | exact l8 | exact l1 | exact l2 | decide | refine And.intro ?_ ?_))) ?_
      exact roundEnd ⟨i + 1, by omega⟩ [] (by show Q.length - (i + 1) < Q.length - i; omega) (by (repeat' (first | exact trivial | exact rfl | exact w3 | exact fun _ => w3 | refine And.intro ?_ ?_))) (by (repeat' (first | exact trivial | exact rfl | exact trivial | exact fun _ => trivial | first | exact hs1 | exact hs2.symm | refine And.intro ?_ ?_))) rfl
  · have hge : i = Q.length := by have : ¬ (i : Int) < (Q.length : Int) := of_decide_eq_false h; omega
    have hw : R.take i = R := by rw [hge, hql, List.take_length]
    refine rn [] rfl (by repeat' (first | exact trivial | exact rfl | refine And.intro ?_ ?_)) (roundExit rfl ?_)
    rw [hw]
    refine rnA [] rfl (by repeat' (first | exact trivial | exact rfl | refine And.intro ?_ ?_)) ?_
    have hA := fun (k : Int) (h : 0 ≤ k ∧ k < 8) => arB_at pAll R h
    have hDn := fun (k : Int) (h : 0 ≤ k ∧ k < 8) => arB_at pDn R h
    simp only [gB_all] at hA
    simp only [gB_dn] at hDn
    have ha0 := hA 0 (by decide)
    have ha1 := hA 1 (by decide)
    have ha2 := hA 2 (by decide)
    have ha3 := hA 3 (by decide)
    have ha4 := hA 4 (by decide)
    have ha5 := hA 5 (by decide)
    have ha6 := hA 6 (by decide)
    have ha7 := hA 7 (by decide)
    have hd0 := hDn 0 (by decide)
    have hd1 := hDn 1 (by decide)
    have hd2 := hDn 2 (by decide)
    have hd3 := hDn 3 (by decide)
    have hd4 := hDn 4 (by decide)
    have hd5 := hDn 5 (by decide)
    have hd6 := hDn 6 (by decide)
    have hd7 := hDn 7 (by decide)
    have hv := fun (k : Int) (H : HL) (nx : Nat) (h1 : lookH H 1 = some (false, .ab (depP V (R.length : Nat) bd))) => viewK (nx := nx) h1 hdr hov hob (by omega) k
    have hv0 := hv 0
    have hv1 := hv 1
    have hv2 := hv 2
    have hv3 := hv 3
    have hv4 := hv 4
    have hv5 := hv 5
    have hv6 := hv 6
    have hv7 := hv 7
    refine At.unroll ?_
    refine rn [(81, .dec true), (95, .spec ⟨.tup [.c (.s (S (alB R 0))), .c (iT 0)], [], [], []⟩), (100, .dec false), (104, .ld [.s (S (alB R 0))]), (107, .dec false), (116, .ld [.s (S (dkB R 0))]), (118, .dec false)] rfl (by (repeat' (first | exact trivial | exact rfl | exact trivial | exact fun _ => trivial | first | exact hv0 _ _ rfl | exact ha0 | exact hd0 | exact ⟨ha0, trivial⟩ | exact ⟨hd0, trivial⟩ | exact same_txt _ | rfl | decide | refine And.intro ?_ ?_))) (nextRound ?_)
    refine rn [(81, .dec true), (95, .spec ⟨.tup [.c (.s (S (alB R 1))), .c (iT 0)], [], [], []⟩), (100, .dec false), (104, .ld [.s (S (alB R 1))]), (107, .dec false), (116, .ld [.s (S (dkB R 1))]), (118, .dec false)] rfl (by (repeat' (first | exact trivial | exact rfl | exact trivial | exact fun _ => trivial | first | exact hv1 _ _ rfl | exact ha1 | exact hd1 | exact ⟨ha1, trivial⟩ | exact ⟨hd1, trivial⟩ | exact same_txt _ | rfl | decide | refine And.intro ?_ ?_))) (nextRound ?_)
    refine rn [(81, .dec true), (95, .spec ⟨.tup [.c (.s (S (alB R 2))), .c (iT 0)], [], [], []⟩), (100, .dec false), (104, .ld [.s (S (alB R 2))]), (107, .dec false), (116, .ld [.s (S (dkB R 2))]), (118, .dec false)] rfl (by (repeat' (first | exact trivial | exact rfl | exact trivial | exact fun _ => trivial | first | exact hv2 _ _ rfl | exact ha2 | exact hd2 | exact ⟨ha2, trivial⟩ | exact ⟨hd2, trivial⟩ | exact same_txt _ | rfl | decide | refine And.intro ?_ ?_))) (nextRound ?_)
    refine rn [(81, .dec true), (95, .spec ⟨.tup [.c (.s (S (alB R 3))), .c (iT 0)], [], [], []⟩), (100, .dec false), (104, .ld [.s (S (alB R 3))]), (107, .dec false), (116, .ld [.s (S (dkB R 3))]), (118, .dec false)] rfl (by (repeat' (first | exact trivial | exact rfl | exact trivial | exact fun _ => trivial | first | exact hv3 _ _ rfl | exact ha3 | exact hd3 | exact ⟨ha3, trivial⟩ | exact ⟨hd3, trivial⟩ | exact same_txt _ | rfl | decide | refine And.intro ?_ ?_))) (nextRound ?_)
    refine rn [(81, .dec true), (95, .spec ⟨.tup [.c (.s (S (alB R 4))), .c (iT 0)], [], [], []⟩), (100, .dec false), (104, .ld [.s (S (alB R 4))]), (107, .dec false), (116, .ld [.s (S (dkB R 4))]), (118, .dec false)] rfl (by (repeat' (first | exact trivial | exact rfl | exact trivial | exact fun _ => trivial | first | exact hv4 _ _ rfl | exact ha4 | exact hd4 | exact ⟨ha4, trivial⟩ | exact ⟨hd4, trivial⟩ | exact same_txt _ | rfl | decide | refine And.intro ?_ ?_))) (nextRound ?_)
    refine rn [(81, .dec true), (95, .spec ⟨.tup [.c (.s (S (alB R 5))), .c (iT 0)], [], [], []⟩), (100, .dec false), (104, .ld [.s (S (alB R 5))]), (107, .dec false), (116, .ld [.s (S (dkB R 5))]), (118, .dec false)] rfl (by (repeat' (first | exact trivial | exact rfl | exact trivial | exact fun _ => trivial | first | exact hv5 _ _ rfl | exact ha5 | exact hd5 | exact ⟨ha5, trivial⟩ | exact ⟨hd5, trivial⟩ | exact same_txt _ | rfl | decide | refine And.intro ?_ ?_))) (nextRound ?_)
    refine rn [(81, .dec true), (95, .spec ⟨.tup [.c (.s (S (alB R 6))), .c (iT 0)], [], [], []⟩), (100, .dec false), (104, .ld [.s (S (alB R 6))]), (107, .dec false), (116, .ld [.s (S (dkB R 6))]), (118, .dec false)] rfl (by (repeat' (first | exact trivial | exact rfl | exact trivial | exact fun _ => trivial | first | exact hv6 _ _ rfl | exact ha6 | exact hd6 | exact ⟨ha6, trivial⟩ | exact ⟨hd6, trivial⟩ | exact same_txt _ | rfl | decide | refine And.intro ?_ ?_))) (nextRound ?_)
    refine rn [(81, .dec true), (95, .spec ⟨.tup [.c (.s (S (alB R 7))), .c (iT 0)], [], [], []⟩), (100, .dec false), (104, .ld [.s (S (alB R 7))]), (107, .dec false), (116, .ld [.s (S (dkB R 7))]), (118, .dec false)] rfl (by (repeat' (first | exact trivial | exact rfl | exact trivial | exact fun _ => trivial | first | exact hv7 _ _ rfl | exact ha7 | exact hd7 | exact ⟨ha7, trivial⟩ | exact ⟨hd7, trivial⟩ | exact same_txt _ | rfl | decide | refine And.intro ?_ ?_))) (nextRound ?_)
    refine rn [(81, .dec false)] rfl (by (repeat' (first | exact trivial | exact rfl | exact trivial | exact fun _ => trivial | decide | refine And.intro ?_ ?_))) (nextExit rfl ?_)
    refine rnA [] rfl (by repeat' (first | exact trivial | exact rfl | refine And.intro ?_ ?_)) ?_
    exact ret0 tysOk rfl (by repeat' (first | exact trivial | exact rfl | refine And.intro ?_ ?_)) rfl
theorem seen0 {br : Bool} {x : RunSt} (hr : lookH H r = some (br, .ab (runP x R.length b bd))) (ok : RunOk x R) (hsml : R.length ≤ 500) :
    FnH Try.prog 33 [.c (.nm r)] H nx ⟨.t (.c (.b true)), [], [], []⟩ := by
  obtain ⟨V, W, D, F, Q, A⟩ := x
  obtain ⟨d0, d1, d2, d3, d4, d5, d6, d7, rfl⟩ := eight ok.dk.d8
  obtain ⟨f0, f1, f2, f3, f4, f5, f6, f7, rfl⟩ := eight ok.dk.f8
  exact fnh_in (nx := nx) (u := .c (.nm r)) (bs := []) (O := runO ⟨V, W, [d0, d1, d2, d3, d4, d5, d6, d7], [f0, f1, f2, f3, f4, f5, f6, f7], Q, A⟩ R.length b bd) (x := .p 0 0) (y := .p 0 0) (v' := .t (.c (.b true))) (news' := []) hr rfl rfl rfl rfl rfl (nm_ptr (k := 5) hr (run_pins _ _ _ _) rfl) (seenU ok hsml)
theorem closedB (hd : lookH H d = some (true, .ab (runB R b bd))) (hsml : R.length ≤ 500) : FnH Try.prog 32 [.c (.nm d)] H nx ⟨.t (.c (.b true)), [], [], []⟩ :=
  fnh_ex2 hd (fun _ => absP_stable _ _) fun x => closed0 (b := b) (bd := bd) look_eq x.2 hsml
theorem seenB (hd : lookH H d = some (true, .ab (runB R b bd))) (hsml : R.length ≤ 500) : FnH Try.prog 33 [.c (.nm d)] H nx ⟨.t (.c (.b true)), [], [], []⟩ :=
  fnh_ex2 hd (fun _ => absP_stable _ _) fun x => seen0 (b := b) (bd := bd) look_eq x.2 hsml
end
end Cw
