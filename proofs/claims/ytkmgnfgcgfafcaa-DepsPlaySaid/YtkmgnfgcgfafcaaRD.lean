/- The document's changes (cutwaterref12), by reckoning: what only reads. -/
import Derived.Test.YtkmgnfgcgfafcaaDepN
namespace Vc
open Go Go.RowKit
/-- A cell that holds a slice's value that is told of: the slice gets a name. -/
theorem At.rawC {P : Program} {F : Frm} {Q : Exit → Act → World → Prop} {c : Code} {ks : List KI} {L : LL} {H : HL} {nx : Nat} {W : List (List Int × Option Addr × Nat)} {xs : List Int} {A : Option Addr} {m : Nat} {b : Bool} {cs cs' : List CV} {T : TypeId} (k i q : Nat) (hq : lookH H q = some (false, .ab (Cw.frzP W))) (hy : (xs, A, m) ∈ W) (hk : lookH H k = some (b, .cells cs T)) (hi : cs[i]? = some (.raw (.slice A xs.length m))) (hcs : cs.set i (.nm nx) = cs') (hbr : bare (flatN (cs.map CV.ns)) = true)
    (h : At P F Q c ks L ((k, some (b, .cells cs' T)) :: (nx, some (false, .rd 1 xs.length (Cw.ivs xs))) :: H) (nx + 1)) : At P F Q c ks L H nx :=
  ⟨fun hW e a w S => by
    subst hcs
    obtain ⟨⟨h1, _⟩, h4⟩ := S.ob q false _ hq
    obtain ⟨h2, h3⟩ := h1 (xs, A, m) hy
    have hone : (Value.slice A xs.length m).oneCell' = true := rfl
    obtain ⟨hW', S'⟩ := S.newF hW (.rd 1 xs.length (Cw.ivs xs)) 0 (.slice A xs.length m) (e.fp q) (fun m hm => by simp [Ob.ns] at hm) ⟨A, m, by rw [Env.put3_val e hone], h2, fun a ha h0 => by rw [Env.put3_fp]; exact h3 a ha (by rw [Cw.ivs_length] at h0; exact h0)⟩ (fun g hg => ⟨(h4 g hg).1, fun j o' hj hg' => by
      by_cases hne : j = q
      · subst hne
        rw [hq] at hj
        cases hj
      · exact S.dj j o' q _ _ hj hq hne g hg' hg⟩)
    have hkn := (hW.h k _ hk).1
    have hk' : lookH ((nx, some (false, .rd 1 xs.length (Cw.ivs xs))) :: H) k = some (b, .cells cs T) := by rw [lookH_cons, if_neg (by omega)]; exact hk
    have hval : (e.put3 nx 0 (.slice A xs.length m) (e.fp q)).val nx = .slice A xs.length m := Env.put3_val e hone
    have hden : ∀ e' : Env, e'.val nx = .slice A xs.length m → (cs.set i (.nm nx)).map (CV.den e') = cs.map (CV.den e') := by
      intro e' hv
      rw [List.map_set]
      apply List.ext_getElem?
      intro j
      rw [List.getElem?_set]
      split
      · rename_i hj
        subst hj
        rw [List.getElem?_map, hi]
        split
        · show some (e'.val nx) = some _; rw [hv]; rfl
        · rename_i hn
          rw [List.length_map] at hn
          rw [List.getElem?_eq_none (by omega)] at hi
          cases hi
      · rfl
    have hnil : flatN (cs.map CV.ns) = [] := by
      cases hh : flatN (cs.map CV.ns) with
      | nil => rfl
      | cons x l => rw [hh] at hbr; cases hbr
    refine h.h ⟨hW'.l, fun n z hz => ?_⟩ _ a w ⟨S'.fr, S'.sz, S'.df, S'.sl, fun n b' o hn => ?_, fun n o m' b' o' hn hm hne => ?_⟩
    · rw [lookH_cons] at hz
      split at hz
      · rename_i h0
        cases hz; subst h0
        refine ⟨by omega, fun m hm => ?_⟩
        simp only [Ob.ns] at hm
        obtain ⟨l, hl, hml⟩ := mem_flatN.1 hm
        obtain ⟨c, hc, rfl⟩ := List.mem_map.1 hl
        rcases List.mem_or_eq_of_mem_set hc with hc | rfl
        · have : m ∈ flatN (cs.map CV.ns) := mem_flatN.2 ⟨_, List.mem_map.2 ⟨c, hc, rfl⟩, hml⟩
          rw [hnil] at this; cases this
        · simp [CV.ns] at hml; omega
      · exact hW'.h n z hz
    · rw [lookH_cons] at hn
      split at hn
      · rename_i h0
        cases hn; subst h0
        obtain ⟨⟨k1, k2⟩, k3⟩ := S'.ob n b _ hk'
        exact ⟨⟨k1, by rw [hden _ hval]; exact k2⟩, k3⟩
      · exact S'.ob n b' o hn
    · have old : ∀ {n : Nat} {z : Bool × Ob}, lookH ((k, some (b, .cells (cs.set i (.nm nx)) T)) :: (nx, some (false, .rd 1 xs.length (Cw.ivs xs))) :: H) n = some z → ∃ o, lookH ((nx, some (false, .rd 1 xs.length (Cw.ivs xs))) :: H) n = some (z.1, o) := by
        intro n z hz
        rw [lookH_cons] at hz
        split at hz
        · rename_i h0; cases hz; subst h0; exact ⟨_, hk'⟩
        · exact ⟨z.2, hz⟩
      obtain ⟨on, hn'⟩ := old hn
      obtain ⟨om, hm'⟩ := old hm
      exact S'.dj n _ m' _ _ hn' hm' hne⟩
end Vc
namespace Cw
open Go Vc
open Go.Proofs
set_option maxRecDepth 100000
/-- A change in the document's row. -/
def rdC (p : Ch × Option Addr × Nat) : List Value := [.int .i64 p.1.at', .int .i64 p.1.off, .string p.1.by', .slice p.2.1 p.1.ah.length p.2.2, .int .i64 p.1.st]
def rdV (p : Ch × Option Addr × Nat) : List CV := [iT p.1.at', iT p.1.off, .s p.1.by', .raw (.slice p.2.1 p.1.ah.length p.2.2), iT p.1.st]
abbrev rdc (V : DV) : List Value := fcs rdC V
theorem rdC_len (p : Ch × Option Addr × Nat) : (rdC p).length = 5 := rfl
theorem rdc_length (V : DV) : (rdc V).length = V.length * 5 := fcs_length rdC_len V
theorem rdc_rd {V : DV} {i : Nat} (h : i < V.length) : Vc.rowAt (rdc V) ((i : Int).toNat * 5) [iT V[i].1.at', iT V[i].1.off, .s V[i].1.by', .raw (.slice V[i].2.1 V[i].1.ah.length V[i].2.2), iT V[i].1.st] :=
  have g := fun (j : Nat) (u : Value) (hu : (rdC V[i])[j]? = some u) => fcs_at (c := 5) rdC_len h hu
  ⟨g 0 _ rfl, g 1 _ rfl, g 2 _ rfl, g 3 _ rfl, g 4 _ rfl, trivial⟩
theorem rdc_f {V : DV} {i : Nat} (h : i < V.length) : (rdc V)[(i : Int).toNat * 5 + 0]? = some (.int .i64 V[i].1.at') ∧ (rdc V)[(i : Int).toNat * 5 + 1]? = some (.int .i64 V[i].1.off) ∧ (rdc V)[(i : Int).toNat * 5 + 1 + 1]? = some (.string V[i].1.by') ∧ (rdc V)[(i : Int).toNat * 5 + 4]? = some (.int .i64 V[i].1.st) :=
  ⟨fcs_at (c := 5) (j := 0) rdC_len h rfl, fcs_at (c := 5) (j := 1) rdC_len h rfl, fcs_at (c := 5) (j := 2) rdC_len h rfl, fcs_at (c := 5) (j := 4) rdC_len h rfl⟩
/-- What stays of all changes: the row of them. -/
structure RR (V : DV) (W : List (List Int × Option Addr × Nat)) (R : List Ch) : Prop where
  eq : chs V = R
  sub : SubW V W
  dep : DepOk R
  z : R.length ≤ 100000
  zah : ∀ c ∈ R, c.ah.length ≤ 100000000000000
  okp : ∀ c ∈ R, okp (c.off, c.by') = true
theorem RR.len {V : DV} {W : List (List Int × Option Addr × Nat)} {R : List Ch} (h : RR V W R) : V.length = R.length := by rw [← h.eq, List.length_map]
theorem RR.at {V : DV} {W : List (List Int × Option Addr × Nat)} {R : List Ch} (h : RR V W R) {i : Nat} (hi : i < V.length) (hj : i < R.length) : V[i].1 = R[i] := by
  have := h.eq
  subst this
  simp
def hRr (V : DV) (W : List (List Int × Option Addr × Nat)) : HL := [(0, some (false, .cells [.nm 1] 28)), (1, some (false, .rd 5 V.length (rdc V))), (2, some (false, .ab (frzP W)))]
section
variable {H : HL} {nx d l q : Nat} {b1 b2 b3 : Bool} {V : DV} {W : List (List Int × Option Addr × Nat)} {R : List Ch}
theorem memRr (hd : lookH H d = some (b1, .cells [.nm l] 28)) (hl : lookH H l = some (b2, .rd 5 V.length (rdc V))) (hq : lookH H q = some (b3, .ab (frzP W))) : rdsOk (r3p d l q) H (hRr V W) := ⟨⟨b1, hd⟩, ⟨b2, hl⟩, ⟨b3, hq⟩, trivial⟩
/-- A sector's changes in a state; of a state below 0 all that are not done. -/
def rfB (k s : Int) (c : Ch) : Bool := c.at' == k && (c.st == s || (decide (s < 0) && c.st != 0))
def rof (R : List Ch) (k s : Int) : List Int := (R.filter (rfB k s)).map Ch.no
theorem rof_succ {R : List Ch} (h : numd R) {i : Nat} (hi : i < R.length) (k s : Int) : rof (R.take (i + 1)) k s = if rfB k s R[i] = true then rof (R.take i) k s ++ [(i : Int) + 1] else rof (R.take i) k s := by
  rw [rof, List.take_succ_eq_append_getElem hi, List.filter_append, List.map_append, ← rof]
  split
  · rename_i h1
    rw [filt1 _ h1, List.map_cons, h i hi]; rfl
  · rename_i h1
    rw [filt0 _ h1]; simp
theorem rof_le (R : List Ch) (k s : Int) : (rof R k s).length ≤ R.length := by rw [rof, List.length_map]; exact List.length_filter_le _ _
set_option maxRecDepth 100000 in
set_option maxHeartbeats 4000000 in
theorem rofU (hd : lookH H d = some (b1, .cells [.nm l] 28)) (hl : lookH H l = some (b2, .rd 5 V.length (rdc V))) (hq : lookH H q = some (b3, .ab (frzP W))) (h : RR V W R) (k s : Int) :
    FnH Try.prog 52 [.c (.p d 0), .c (iT k), .c (iT s)] H nx ⟨.t (.c (.nm nx)), [(true, .own 3 1 (rof R k s).length (ivs (rof R k s)))], [], []⟩ := by
  refine fnN (fn := Try.f52) 61 rfl rfl rfl (args' := [.c (.p 0 0), .c (iT k), .c (iT s)]) (H' := hRr V W) (nx' := 3) (fun e w M => ⟨_, mem_rd (r3p d l q) (memRr hd hl hq) M, rfl⟩) rfl rfl rfl (inR_one _) rfl fun w => ?_
  show At _ _ _ _ _ _ [(0, some (false, .cells [.nm 1] 28)), (1, some (false, .rd 5 V.length (rdc V))), (2, some (false, .ab (frzP W)))] 3
  have hVl := h.len
  have hz := h.z
  refine rn [] rfl (by repeat' (first | exact trivial | exact rfl | refine And.intro ?_ ?_)) ?_
  refine At.nil 7 3 1 rfl ?_
  refine At.loop (X := (i : Nat) ×' (i ≤ V.length)) 4 (fun x => V.length - x.1)
    (fun x => [(0, .t (.c (.p 0 0))), (1, .t (.c (iT k))), (2, .t (.c (iT s))), (7, .t (.c (.nm 3))), (8, .t (.c (iT (x.1 : Nat))))])
    (fun x => [(0, some (false, .cells [.nm 1] 28)), (1, some (false, .rd 5 V.length (rdc V))), (3, some (true, .own 3 1 (rof (R.take x.1) k s).length (ivs (rof (R.take x.1) k s))))]) ⟨0, by omega⟩ [] (fun x => wf rfl rfl) (by repeat' (first | exact trivial | exact rfl | refine And.intro ?_ ?_)) (by repeat' (first | exact trivial | exact rfl | refine And.intro ?_ ?_)) rfl fun x => ?_
  obtain ⟨i, hi⟩ := x
  have w3 : IntKind.i64.wrap ((i : Int) + 1) = ((i + 1 : Nat) : Int) := by rw [wrap_sm (by omega) (by omega)]; omega
  refine rn [] rfl (by repeat' (first | exact trivial | exact rfl | refine And.intro ?_ ?_)) ?_
  refine ⟨fun h1 => ?_, fun h1 => ?_⟩
  · have hlt : i < V.length := by have : (i : Int) < (V.length : Int) := of_decide_eq_true h1; omega
    clear h1
    have hlR : i < R.length := by omega
    obtain ⟨f0, _, _, f4⟩ := rdc_f hlt
    rw [h.at hlt hlR] at f0 f4
    have b0 : (0 : Int) ≤ (i : Int) := by omega
    have b1 : (i : Int) < (V.length : Int) := by omega
    have c5 : (i : Int).toNat * 5 < (rdc V).length := by rw [rdc_length]; omega
    have hsu := rof_succ h.dep.num hlR k s
    have hle := rof_le (R.take i) k s
    rw [List.length_take] at hle
    have m1 : (rof (R.take i) k s).length + 1 ≤ maxLen := by simp [maxLen]; omega
    have m2 : ((rof (R.take i) k s).length + 1) * 8 ≤ 140737488355328 := by omega
    have hw : (i : Int) + 1 = ((i + 1 : Nat) : Int) := by omega
    have yes : rfB k s R[i] = true → (rof (R.take i) k s).length + 1 = (rof (R.take (i + 1)) k s).length ∧ app (ivs (rof (R.take i) k s)) (List.map (CV.den Vc.e0) [iT (IntKind.i64.wrap ((i : Int) + 1))]) = ivs (rof (R.take (i + 1)) k s) := fun hb => by
      rw [hsu, if_pos hb]
      refine ⟨by simp, ?_⟩
      rw [app_eq, w3, ← hw]; simp [ivs]; rfl
    have no : rfB k s R[i] = false → rof (R.take (i + 1)) k s = rof (R.take i) k s := fun hb => by rw [hsu, hb, if_neg (by decide)]
    cases ca : R[i].at' == k with
    | false =>
      have hn := no (by rw [rfB, ca, Bool.false_and])
      refine rn [(25, .ld [iT R[i].at']), (28, .dec false), (54, .dec false)] rfl (by (repeat' (first | exact trivial | exact rfl | exact trivial | exact fun _ => trivial | first | exact f0 | exact ⟨f0, trivial⟩ | exact b0 | exact b1 | exact c5 | exact ca | decide | refine And.intro ?_ ?_))) ?_
      exact roundEnd ⟨i + 1, by omega⟩ [] (by show V.length - (i + 1) < V.length - i; omega) (by (repeat' (first | exact trivial | exact rfl | exact w3 | exact fun _ => w3 | refine And.intro ?_ ?_))) (by (repeat' (first | exact trivial | exact rfl | exact trivial | exact fun _ => trivial | first | exact congrArg List.length hn.symm | exact congrArg ivs hn.symm | refine And.intro ?_ ?_))) rfl
    | true =>
      cases cs : R[i].st == s with
      | true =>
        obtain ⟨y1, y2⟩ := yes (by rw [rfB, ca, cs]; rfl)
        refine rn [(25, .ld [iT R[i].at']), (28, .dec true), (36, .ld [iT R[i].st]), (39, .dec true), (54, .dec true)] rfl (by (repeat' (first | exact trivial | exact rfl | exact trivial | exact fun _ => trivial | first | exact f0 | exact ⟨f0, trivial⟩ | exact f4 | exact ⟨f4, trivial⟩ | exact b0 | exact b1 | exact c5 | exact ca | exact cs | exact m1 | exact m2 | rfl | decide | refine And.intro ?_ ?_))) ?_
        exact roundEnd ⟨i + 1, by omega⟩ [(3, 5)] (by show V.length - (i + 1) < V.length - i; omega) (by (repeat' (first | exact trivial | exact rfl | exact w3 | exact fun _ => w3 | refine And.intro ?_ ?_))) (by (repeat' (first | exact trivial | exact rfl | exact trivial | exact fun _ => trivial | first | exact y1 | exact y2 | refine And.intro ?_ ?_))) rfl
      | false =>
        cases cn : decide (s < 0) with
        | false =>
          have hn := no (by rw [rfB, ca, cs, cn]; rfl)
          refine rn [(25, .ld [iT R[i].at']), (28, .dec true), (36, .ld [iT R[i].st]), (39, .dec false), (42, .dec false), (54, .dec false)] rfl (by (repeat' (first | exact trivial | exact rfl | exact trivial | exact fun _ => trivial | first | exact f0 | exact ⟨f0, trivial⟩ | exact f4 | exact ⟨f4, trivial⟩ | exact b0 | exact b1 | exact c5 | exact ca | exact cs | exact cn | rfl | decide | refine And.intro ?_ ?_))) ?_
          exact roundEnd ⟨i + 1, by omega⟩ [] (by show V.length - (i + 1) < V.length - i; omega) (by (repeat' (first | exact trivial | exact rfl | exact w3 | exact fun _ => w3 | refine And.intro ?_ ?_))) (by (repeat' (first | exact trivial | exact rfl | exact trivial | exact fun _ => trivial | first | exact congrArg List.length hn.symm | exact congrArg ivs hn.symm | refine And.intro ?_ ?_))) rfl
        | true =>
          cases cz : R[i].st != 0 with
          | true =>
            obtain ⟨y1, y2⟩ := yes (by rw [rfB, ca, cs, cn, cz]; rfl)
            refine rn [(25, .ld [iT R[i].at']), (28, .dec true), (36, .ld [iT R[i].st]), (39, .dec false), (42, .dec true), (50, .ld [iT R[i].st]), (54, .dec true)] rfl (by (repeat' (first | exact trivial | exact rfl | exact trivial | exact fun _ => trivial | first | exact f0 | exact ⟨f0, trivial⟩ | exact f4 | exact ⟨f4, trivial⟩ | exact b0 | exact b1 | exact c5 | exact ca | exact cs | exact cn | exact cz | exact m1 | exact m2 | rfl | decide | refine And.intro ?_ ?_))) ?_
            exact roundEnd ⟨i + 1, by omega⟩ [(3, 5)] (by show V.length - (i + 1) < V.length - i; omega) (by (repeat' (first | exact trivial | exact rfl | exact w3 | exact fun _ => w3 | refine And.intro ?_ ?_))) (by (repeat' (first | exact trivial | exact rfl | exact trivial | exact fun _ => trivial | first | exact y1 | exact y2 | refine And.intro ?_ ?_))) rfl
          | false =>
            have hn := no (by rw [rfB, ca, cs, cn, cz]; rfl)
            refine rn [(25, .ld [iT R[i].at']), (28, .dec true), (36, .ld [iT R[i].st]), (39, .dec false), (42, .dec true), (50, .ld [iT R[i].st]), (54, .dec false)] rfl (by (repeat' (first | exact trivial | exact rfl | exact trivial | exact fun _ => trivial | first | exact f0 | exact ⟨f0, trivial⟩ | exact f4 | exact ⟨f4, trivial⟩ | exact b0 | exact b1 | exact c5 | exact ca | exact cs | exact cn | exact cz | rfl | decide | refine And.intro ?_ ?_))) ?_
            exact roundEnd ⟨i + 1, by omega⟩ [] (by show V.length - (i + 1) < V.length - i; omega) (by (repeat' (first | exact trivial | exact rfl | exact w3 | exact fun _ => w3 | refine And.intro ?_ ?_))) (by (repeat' (first | exact trivial | exact rfl | exact trivial | exact fun _ => trivial | first | exact congrArg List.length hn.symm | exact congrArg ivs hn.symm | refine And.intro ?_ ?_))) rfl
  · have hge : i = V.length := by have : ¬ (i : Int) < (V.length : Int) := of_decide_eq_false h1; omega
    have hw : R.take i = R := by rw [hge, hVl, List.take_length]
    refine rn [] rfl (by repeat' (first | exact trivial | exact rfl | refine And.intro ?_ ?_)) (roundExit rfl ?_)
    rw [hw]
    refine rnA [] rfl (by repeat' (first | exact trivial | exact rfl | refine And.intro ?_ ?_)) ?_
    exact retN tysOk [(nx, 3)] rfl (by simp only [retS, SV.eqs, eqsT, TV.eqs, CV.eqs, ren_one]; repeat' (first | exact trivial | exact rfl | refine And.intro ?_ ?_)) (by simp only [newsH, subH, ren_one]; repeat' (first | exact trivial | exact rfl | refine And.intro ?_ ?_)) (by simp [injK, keysH, newsH, inL]) rfl
end
end Cw
namespace Cw
open Go Vc
open Go.Proofs
set_option maxRecDepth 100000
section
variable {H : HL} {nx d l q : Nat} {b1 b2 b3 : Bool} {V : DV} {W : List (List Int × Option Addr × Nat)} {R : List Ch}
def inB (R : List Ch) (acc : List Int) (n : Int) (t : Nat) : Bool := stOf n R == 0 || (acc.take t).contains n
def allA (R : List Ch) (acc : List Int) (ah : List Int) (j : Nat) : Bool := (ah.take j).all fun n => stOf n R == 0 || acc.contains n
theorem inB_succ {R : List Ch} {acc : List Int} {n : Int} {t : Nat} (h : t < acc.length) : inB R acc n (t + 1) = (inB R acc n t || acc[t] == n) := by
  have e : (acc.take (t + 1)).contains n = ((acc.take t).contains n || acc[t] == n) := by
    rw [List.take_succ_eq_append_getElem h, Bool.eq_iff_iff, Bool.or_eq_true, List.contains_iff_mem, List.contains_iff_mem, List.mem_append, List.mem_singleton, beq_iff_eq]
    exact ⟨fun h => h.imp id fun e => e.symm, fun h => h.imp id fun e => e.symm⟩
  rw [inB, inB, e, Bool.or_assoc]
theorem allA_succ {R : List Ch} {acc ah : List Int} {j : Nat} (h : j < ah.length) : allA R acc ah (j + 1) = (allA R acc ah j && inB R acc ah[j] acc.length) := by
  rw [allA, List.take_succ_eq_append_getElem h, List.all_append, ← allA, inB, List.take_length]
  simp
def accR (R : List Ch) (k : Int) (i : Nat) : List Int := (rdyT R k i).map (·.2.no)
theorem accR_succ {R : List Ch} (hn : numd R) {k : Int} {i : Nat} (h : i < R.length) : accR R k (i + 1) = if (R[i].at' == k && R[i].st == 1 && allA R (accR R k i) R[i].ah R[i].ah.length) = true then accR R k i ++ [(i : Int) + 1] else accR R k i := by
  rw [accR, rdyT, List.getElem?_eq_getElem h]
  have e : rdyC R k R[i] ((rdyT R k i).map (·.2.no)) = (R[i].at' == k && R[i].st == 1 && allA R (accR R k i) R[i].ah R[i].ah.length) := by rw [rdyC, allA, List.take_length]; rfl
  simp only [e]
  split
  · rw [List.map_append, List.map_cons, hn i h]; rfl
  · rfl
theorem accR_le (R : List Ch) (k : Int) (i : Nat) : (accR R k i).length ≤ i := by rw [accR, List.length_map]; exact rdyT_le R k i
set_option maxRecDepth 100000 in
set_option maxHeartbeats 8000000 in
theorem rreadyU (hd : lookH H d = some (b1, .cells [.nm l] 28)) (hl : lookH H l = some (b2, .rd 5 V.length (rdc V))) (hq : lookH H q = some (b3, .ab (frzP W))) (h : RR V W R) (k : Int) :
    FnH Try.prog 32 [.c (.p d 0), .c (iT k)] H nx ⟨.t (.c (.nm nx)), [(true, .own 3 1 (rdyN R k).length (ivs (rdyN R k)))], [], []⟩ := by
  refine fnN (fn := Try.f32) 88 rfl rfl rfl (args' := [.c (.p 0 0), .c (iT k)]) (H' := hRr V W) (nx' := 3) (fun e w M => ⟨_, mem_rd (r3p d l q) (memRr hd hl hq) M, rfl⟩) rfl rfl rfl (inR_one _) rfl fun w => ?_
  show At _ _ _ _ _ _ [(0, some (false, .cells [.nm 1] 28)), (1, some (false, .rd 5 V.length (rdc V))), (2, some (false, .ab (frzP W)))] 3
  have hVl := h.len
  have hz := h.z
  refine rn [] rfl (by repeat' (first | exact trivial | exact rfl | refine And.intro ?_ ?_)) ?_
  refine At.nil 5 3 1 rfl ?_
  refine At.loop (X := (i : Nat) ×' (i ≤ V.length)) 4 (fun x => V.length - x.1)
    (fun x => [(0, .t (.c (.p 0 0))), (1, .t (.c (iT k))), (5, .t (.c (.nm 3))), (6, .t (.c (iT (x.1 : Nat))))])
    (fun x => [(0, some (false, .cells [.nm 1] 28)), (1, some (false, .rd 5 V.length (rdc V))), (2, some (false, .ab (frzP W))), (3, some (true, .own 3 1 (accR R k x.1).length (ivs (accR R k x.1))))]) ⟨0, by omega⟩ [] (fun x => wf rfl rfl) (by repeat' (first | exact trivial | exact rfl | refine And.intro ?_ ?_)) (by repeat' (first | exact trivial | exact rfl | refine And.intro ?_ ?_)) rfl fun x => ?_
  obtain ⟨i, hi⟩ := x
  have w3 : IntKind.i64.wrap ((i : Int) + 1) = ((i + 1 : Nat) : Int) := by rw [wrap_sm (by omega) (by omega)]; omega
  refine rn [] rfl (by repeat' (first | exact trivial | exact rfl | refine And.intro ?_ ?_)) ?_
  refine ⟨fun h1 => ?_, fun h1 => ?_⟩
  · have hlt : i < V.length := by have : (i : Int) < (V.length : Int) := of_decide_eq_true h1; omega
    clear h1
    have hlR : i < R.length := by omega
    have r1 := rdc_rd hlt
    have hsub := h.sub _ (List.getElem_mem hlt)
    rw [fz] at hsub
    have hVR := h.at hlt hlR
    rw [hVR] at r1 hsub
    have b0 : (0 : Int) ≤ (i : Int) := by omega
    have b1 : (i : Int) < (V.length : Int) := by omega
    have c5 : (i : Int).toNat * 5 < (rdc V).length := by rw [rdc_length]; omega
    have hsu := accR_succ h.dep.num (k := k) hlR
    have hle := accR_le R k i
    have zah := h.zah _ (List.getElem_mem hlR)
    have hah := h.dep.ah _ (List.getElem_mem hlR)
    have hnoi := h.dep.num i hlR
    have m1 : (accR R k i).length + 1 ≤ maxLen := by simp [maxLen]; omega
    have m2 : ((accR R k i).length + 1) * 8 ≤ 140737488355328 := by omega
    have hw : (i : Int) + 1 = ((i + 1 : Nat) : Int) := by omega
    cases ca : R[i].at' != k with
    | true =>
      have hn : accR R k (i + 1) = accR R k i := by rw [hsu, if_neg (by rw [bne, Bool.not_eq_true'] at ca; rw [ca]; simp)]
      refine rn [(27, .ld [iT R[i].at', iT R[i].off, .s R[i].by', .raw (.slice V[i].2.1 R[i].ah.length V[i].2.2), iT R[i].st]), (32, .dec true), (36, .dec true)] rfl (by (repeat' (first | exact trivial | exact rfl | exact trivial | exact fun _ => trivial | first | exact r1 | exact b0 | exact b1 | exact c5 | exact ca | rfl | decide | refine And.intro ?_ ?_))) ?_
      exact roundEnd ⟨i + 1, by omega⟩ [] (by show V.length - (i + 1) < V.length - i; omega) (by (repeat' (first | exact trivial | exact rfl | exact w3 | exact fun _ => w3 | refine And.intro ?_ ?_))) (by (repeat' (first | exact trivial | exact rfl | exact trivial | exact fun _ => trivial | first | exact congrArg List.length hn.symm | exact congrArg ivs hn.symm | refine And.intro ?_ ?_))) rfl
    | false =>
      have ca' : (R[i].at' == k) = true := by rw [bne, Bool.not_eq_false'] at ca; exact ca
      cases cs : R[i].st != 1 with
      | true =>
        have hn : accR R k (i + 1) = accR R k i := by rw [hsu, if_neg (by rw [bne, Bool.not_eq_true'] at cs; rw [cs]; simp)]
        refine rn [(27, .ld [iT R[i].at', iT R[i].off, .s R[i].by', .raw (.slice V[i].2.1 R[i].ah.length V[i].2.2), iT R[i].st]), (32, .dec false), (36, .dec true)] rfl (by (repeat' (first | exact trivial | exact rfl | exact trivial | exact fun _ => trivial | first | exact r1 | exact b0 | exact b1 | exact c5 | exact ca | exact cs | rfl | decide | refine And.intro ?_ ?_))) ?_
        exact roundEnd ⟨i + 1, by omega⟩ [] (by show V.length - (i + 1) < V.length - i; omega) (by (repeat' (first | exact trivial | exact rfl | exact w3 | exact fun _ => w3 | refine And.intro ?_ ?_))) (by (repeat' (first | exact trivial | exact rfl | exact trivial | exact fun _ => trivial | first | exact congrArg List.length hn.symm | exact congrArg ivs hn.symm | refine And.intro ?_ ?_))) rfl
      | false =>
        have cs' : (R[i].st == 1) = true := by rw [bne, Bool.not_eq_false'] at cs; exact cs
        rw [ca', cs', Bool.true_and, Bool.true_and] at hsu
        refine rn [(27, .ld [iT R[i].at', iT R[i].off, .s R[i].by', .raw (.slice V[i].2.1 R[i].ah.length V[i].2.2), iT R[i].st]), (32, .dec false), (36, .dec false)] rfl (by (repeat' (first | exact trivial | exact rfl | exact trivial | exact fun _ => trivial | first | exact r1 | exact b0 | exact b1 | exact c5 | exact ca | exact cs | rfl | decide | refine And.intro ?_ ?_))) ?_
        refine At.rawC (xs := R[i].ah) (A := V[i].2.1) (m := V[i].2.2) 4 3 2 rfl hsub rfl rfl rfl rfl ?_
        generalize hacc : accR R k i = acc at *
        generalize hAh : R[i].ah = ah at *
        refine At.loop (X := (j : Nat) ×' (j ≤ ah.length)) 6 (fun x => ah.length - x.1)
          (fun x => [(0, .t (.c (.p 0 0))), (1, .t (.c (iT k))), (5, .t (.c (.nm 3))), (6, .t (.c (iT (i : Nat)))), (7, .t (.c (.p 4 0))), (8, .t (.c (.b (allA R acc ah x.1)))), (9, .t (.c (iT (x.1 : Nat))))])
          (fun _ => [(0, some (false, .cells [.nm 1] 28)), (1, some (false, .rd 5 V.length (rdc V))), (2, some (false, .ab (frzP W))), (3, some (true, .own 3 1 acc.length (ivs acc))), (4, some (true, .cells [iT R[i].at', iT R[i].off, .s R[i].by', .nm 5, iT R[i].st] 74)), (5, some (false, .rd 1 ah.length (ivs ah)))]) ⟨0, by omega⟩ [] (fun x => wf rfl rfl) (by repeat' (first | exact trivial | exact rfl | refine And.intro ?_ ?_)) (by repeat' (first | exact trivial | exact rfl | refine And.intro ?_ ?_)) rfl fun x => ?_
        obtain ⟨j, hj⟩ := x
        have w4 : IntKind.i64.wrap ((j : Int) + 1) = ((j + 1 : Nat) : Int) := by rw [wrap_sm (by omega) (by omega)]; omega
        refine rn [] rfl (by repeat' (first | exact trivial | exact rfl | refine And.intro ?_ ?_)) ?_
        refine ⟨fun h1 => ?_, fun h1 => ?_⟩
        · have hjl : j < ah.length := by have : (j : Int) < (ah.length : Int) := of_decide_eq_true h1; omega
          clear h1
          obtain ⟨g1, g2⟩ := hah ah[j] (List.getElem_mem hjl)
          have e1 : (ivs ah)[(j : Int).toNat * 1]? = some (.int .i64 ah[j]) := by simpa using ivs_at hjl
          have d0 : (0 : Int) ≤ (j : Int) := by omega
          have d1 : (j : Int) < (ah.length : Int) := by omega
          have hasu := allA_succ (R := R) (acc := acc) hjl
          generalize hn' : ah[j] = n at *
          obtain ⟨p, hp⟩ : ∃ p : Nat, n - 1 = (p : Int) := ⟨(n - 1).toNat, by omega⟩
          have hpV : p < V.length := by omega
          have hpR : p < R.length := by omega
          have wn : IntKind.i64.wrap (n - 1) = (p : Int) := by rw [wrap_sm (by omega) (by omega)]; exact hp
          have hst : stOf n R = R[p].st := by
            rw [h.dep.num.st g1 (by omega)]
            have : n.toNat - 1 = p := by omega
            simp only [this]
          obtain ⟨_, _, _, f4⟩ := rdc_f hpV
          rw [h.at hpV hpR, ← wn] at f4
          have d2 : (0 : Int) ≤ IntKind.i64.wrap (n - 1) := by omega
          have d3 : IntKind.i64.wrap (n - 1) < (V.length : Int) := by omega
          have d4 : (IntKind.i64.wrap (n - 1)).toNat * 5 < (rdc V).length := by rw [rdc_length, wn, Int.toNat_natCast]; omega
          have in0 : (R[p].st == 0) = inB R acc n 0 := by rw [inB, hst]; simp
          refine rn [(52, .ld [iT n]), (56, .ld [iT R[p].st])] rfl (by (repeat' (first | exact trivial | exact rfl | exact trivial | exact fun _ => trivial | first | exact e1 | exact ⟨e1, trivial⟩ | exact f4 | exact ⟨f4, trivial⟩ | exact d0 | exact d1 | exact d2 | exact d3 | exact d4 | decide | refine And.intro ?_ ?_))) ?_
          refine At.loop (X := (t : Nat) ×' (t ≤ acc.length)) 6 (fun x => acc.length - x.1)
            (fun x => [(0, .t (.c (.p 0 0))), (1, .t (.c (iT k))), (5, .t (.c (.nm 3))), (6, .t (.c (iT (i : Nat)))), (7, .t (.c (.p 4 0))), (8, .t (.c (.b (allA R acc ah j)))), (9, .t (.c (iT (j : Nat)))), (10, .t (.c (.b (inB R acc n x.1)))), (11, .t (.c (iT (x.1 : Nat))))])
            (fun _ => [(0, some (false, .cells [.nm 1] 28)), (1, some (false, .rd 5 V.length (rdc V))), (2, some (false, .ab (frzP W))), (3, some (true, .own 3 1 acc.length (ivs acc))), (4, some (true, .cells [iT R[i].at', iT R[i].off, .s R[i].by', .nm 5, iT R[i].st] 74)), (5, some (false, .rd 1 ah.length (ivs ah)))]) ⟨0, by omega⟩ [] (fun x => wf rfl rfl) (by (repeat' (first | exact trivial | exact rfl | exact trivial | exact fun _ => trivial | exact in0 | refine And.intro ?_ ?_))) (by repeat' (first | exact trivial | exact rfl | refine And.intro ?_ ?_)) rfl fun x => ?_
          obtain ⟨t, ht⟩ := x
          have w5 : IntKind.i64.wrap ((t : Int) + 1) = ((t + 1 : Nat) : Int) := by rw [wrap_sm (by omega) (by omega)]; omega
          refine rn [] rfl (by repeat' (first | exact trivial | exact rfl | refine And.intro ?_ ?_)) ?_
          refine ⟨fun h1 => ?_, fun h1 => ?_⟩
          · have htl : t < acc.length := by have : (t : Int) < (acc.length : Int) := of_decide_eq_true h1; omega
            clear h1
            have e2 : (ivs acc)[(t : Int).toNat * 1]? = some (.int .i64 acc[t]) := by simpa using ivs_at htl
            have t0 : (0 : Int) ≤ (t : Int) := by omega
            have t1 : (t : Int) < (acc.length : Int) := by omega
            have hins := inB_succ (R := R) (n := n) htl
            cases ci : inB R acc n t with
            | true =>
              rw [ci, Bool.true_or] at hins
              refine rn [(65, .dec true)] rfl (by (repeat' (first | exact trivial | exact rfl | exact trivial | exact fun _ => trivial | first | exact ci | rfl | refine And.intro ?_ ?_))) ?_
              exact roundEnd ⟨t + 1, by omega⟩ [] (by show acc.length - (t + 1) < acc.length - t; omega) (by (repeat' (first | exact trivial | exact rfl | exact w5 | exact fun _ => w5 | first | exact w5 | exact hins.symm | (rw [hins]; exact ci) | (rw [hins]; simp) | refine And.intro ?_ ?_))) (by repeat' (first | exact trivial | exact rfl | refine And.intro ?_ ?_)) rfl
            | false =>
              rw [ci, Bool.false_or] at hins
              refine rn [(65, .dec false), (69, .ld [iT acc[t]]), (74, .ld [iT n])] rfl (by (repeat' (first | exact trivial | exact rfl | exact trivial | exact fun _ => trivial | first | exact ci | exact e1 | exact ⟨e1, trivial⟩ | exact e2 | exact ⟨e2, trivial⟩ | exact d0 | exact d1 | exact t0 | exact t1 | rfl | decide | refine And.intro ?_ ?_))) ?_
              exact roundEnd ⟨t + 1, by omega⟩ [] (by show acc.length - (t + 1) < acc.length - t; omega) (by (repeat' (first | exact trivial | exact rfl | exact w5 | exact fun _ => w5 | first | exact w5 | exact hins.symm | (rw [hins]; done) | (rw [hins]; simp [ci]) | refine And.intro ?_ ?_))) (by repeat' (first | exact trivial | exact rfl | refine And.intro ?_ ?_)) rfl
          · have hge : t = acc.length := by have : ¬ (t : Int) < (acc.length : Int) := of_decide_eq_false h1; omega
            subst hge
            refine rn [] rfl (by repeat' (first | exact trivial | exact rfl | refine And.intro ?_ ?_)) (roundExit rfl ?_)
            cases co : allA R acc ah j with
            | true =>
              rw [co, Bool.true_and] at hasu
              refine rnA [(78, .dec true)] rfl (by (repeat' (first | exact trivial | exact rfl | exact trivial | exact fun _ => trivial | first | exact co | rfl | refine And.intro ?_ ?_))) ?_
              exact roundEnd ⟨j + 1, by omega⟩ [] (by show ah.length - (j + 1) < ah.length - j; omega) (by (repeat' (first | exact trivial | exact rfl | exact w4 | exact fun _ => w4 | first | exact w4 | exact hasu.symm | (rw [hasu]; simp [co]) | refine And.intro ?_ ?_))) (by repeat' (first | exact trivial | exact rfl | refine And.intro ?_ ?_)) rfl
            | false =>
              rw [co, Bool.false_and] at hasu
              refine rnA [(78, .dec false)] rfl (by (repeat' (first | exact trivial | exact rfl | exact trivial | exact fun _ => trivial | first | exact co | rfl | refine And.intro ?_ ?_))) ?_
              exact roundEnd ⟨j + 1, by omega⟩ [] (by show ah.length - (j + 1) < ah.length - j; omega) (by (repeat' (first | exact trivial | exact rfl | exact w4 | exact fun _ => w4 | first | exact w4 | exact hasu.symm | (rw [hasu]; exact co) | (rw [hasu]; simp [co]) | refine And.intro ?_ ?_))) (by repeat' (first | exact trivial | exact rfl | refine And.intro ?_ ?_)) rfl
        · have hge : j = ah.length := by have : ¬ (j : Int) < (ah.length : Int) := of_decide_eq_false h1; omega
          subst hge
          refine rn [] rfl (by repeat' (first | exact trivial | exact rfl | refine And.intro ?_ ?_)) (roundExit rfl ?_)
          cases co : allA R acc ah ah.length with
          | true =>
            rw [co, if_pos rfl] at hsu
            refine rnA [(81, .dec true)] rfl (by (repeat' (first | exact trivial | exact rfl | exact trivial | exact fun _ => trivial | first | exact co | exact m1 | exact m2 | decide | refine And.intro ?_ ?_))) ?_
            refine roundEnd ⟨i + 1, by omega⟩ [(3, 7)] (by show V.length - (i + 1) < V.length - i; omega) (by (repeat' (first | exact trivial | exact rfl | exact w3 | exact fun _ => w3 | refine And.intro ?_ ?_))) ?_ rfl
            repeat' (first | exact trivial | exact rfl | refine And.intro ?_ ?_)
            · rw [hsu]; simp
            · rw [hsu, app_eq, w3, ← hw]; simp [ivs]; rfl
          | false =>
            rw [co, if_neg (by decide)] at hsu
            refine rnA [(81, .dec false)] rfl (by (repeat' (first | exact trivial | exact rfl | exact trivial | exact fun _ => trivial | exact co | refine And.intro ?_ ?_))) ?_
            exact roundEnd ⟨i + 1, by omega⟩ [] (by show V.length - (i + 1) < V.length - i; omega) (by (repeat' (first | exact trivial | exact rfl | exact w3 | exact fun _ => w3 | refine And.intro ?_ ?_))) (by (repeat' (first | exact trivial | exact rfl | exact trivial | exact fun _ => trivial | first | exact congrArg List.length hsu.symm | exact congrArg ivs hsu.symm | refine And.intro ?_ ?_))) rfl
  · have hge : i = V.length := by have : ¬ (i : Int) < (V.length : Int) := of_decide_eq_false h1; omega
    have hw : accR R k i = rdyN R k := by rw [hge, hVl]; rfl
    refine rn [] rfl (by repeat' (first | exact trivial | exact rfl | refine And.intro ?_ ?_)) (roundExit rfl ?_)
    rw [hw]
    refine rnA [] rfl (by repeat' (first | exact trivial | exact rfl | refine And.intro ?_ ?_)) ?_
    exact retN tysOk [(nx, 3)] rfl (by simp only [retS, SV.eqs, eqsT, TV.eqs, CV.eqs, ren_one]; repeat' (first | exact trivial | exact rfl | refine And.intro ?_ ?_)) (by simp only [newsH, subH, ren_one]; repeat' (first | exact trivial | exact rfl | refine And.intro ?_ ?_)) (by simp [injK, keysH, newsH, inL]) rfl
end
end Cw
namespace Cw
open Go Vc
open Go.Proofs
set_option maxRecDepth 100000
theorem dcheck0 (o : Int) (t : ByteArray) : Fn0 Try.prog 50 [.agg [iT o, .s t]] (.t (.c (iT (fcheck o t.size)))) := ⟨fun w => rfcheck_any o t w⟩
theorem dboth0 (a b : Pt) (ha : okp a = true) (hb : okp b = true) : Fn0 Try.prog 51 [.agg [iT a.1, .s a.2], .agg [iT b.1, .s b.2]] (.t (.c (.b (both a b)))) := ⟨fun w => rboth_any a b ha hb w⟩
theorem done0 (s : ByteArray) (p : Pt) (hs : s.size = 64) (hp : okp p = true) : Fn0 Try.prog 70 [.c (.s s), .agg [iT p.1, .s p.2]] (.t (.c (.s (pt s [p])))) := ⟨fun w => by
  have h := okp_iff hp
  have e0 : pte s [p] = 0 := by simp [pte, hs, hp]
  have e1 : pt s [p] = S (one s.data.toList (p.1, p.2)) := by
    rw [pt, if_pos e0]
    rfl
  have := one_any s p.1.toNat p.2 hs h.2.1 h.2.2.1 (by omega) w
  rw [Int.toNat_of_nonneg h.1, ← e1] at this
  exact this⟩
theorem pte_ok {s : ByteArray} {l : List Pt} (hs : s.size = 64) (hl : l.length ≤ 1024) (ho : ∀ p ∈ l, okp p = true) : pte s l = 0 := by
  rw [pte, if_neg (by omega), if_neg (by omega), if_pos (List.all_eq_true.2 ho)]
theorem pt_size {s : ByteArray} {l : List Pt} (hs : s.size = 64) (hl : l.length ≤ 1024) (ho : ∀ p ∈ l, okp p = true) : (pt s l).size = 64 := by
  rw [pt, if_pos (pte_ok hs hl ho), S_size, patchAll_length l _ hs (List.all_eq_true.2 ho)]
theorem pt_snoc {s : ByteArray} {l : List Pt} {p : Pt} (hs : s.size = 64) (hl : l.length + 1 ≤ 1024) (ho : ∀ q ∈ l ++ [p], okp q = true) : pt (pt s l) [p] = pt s (l ++ [p]) := by
  have h1 : ∀ q ∈ l, okp q = true := fun q hq => ho q (by simp [hq])
  have hz := pt_size hs (by omega) h1
  rw [pt, if_pos (pte_ok hz (by simp) (by simpa using ho p (by simp))), pt, if_pos (pte_ok hs (by omega) h1), pt, if_pos (pte_ok hs (by simpa using hl) ho)]
  simp [patchAll, S]
/-- The patch of a number. -/
def pOf (R : List Ch) (n : Int) : Pt := match R[n.toNat - 1]? with
  | some c => (c.off, c.by')
  | none => (0, ⟨#[]⟩)
theorem pOf_at {R : List Ch} {p : Nat} (h : p < R.length) {n : Int} (hn : n - 1 = (p : Int)) : pOf R n = (R[p].off, R[p].by') := by
  have : n.toNat - 1 = p := by omega
  rw [pOf, this, List.getElem?_eq_getElem h]
theorem pOf_mem {R : List Ch} (hn : numd R) {c : Ch} (hc : c ∈ R) : pOf R c.no = (c.off, c.by') := by
  obtain ⟨i, hi, rfl⟩ := List.mem_iff_getElem.1 hc
  exact pOf_at hi (by rw [hn i hi]; omega)
section
variable {H : HL} {nx d l q m : Nat} {b1 b2 b3 b4 : Bool} {V : DV} {W : List (List Int × Option Addr × Nat)} {R : List Ch}
theorem pOf_rdy (h : DepOk R) (k : Int) : (rdyN R k).map (pOf R) = rdyP R k := by
  rw [← rdyL_no, List.map_map, rdyP]
  refine List.map_congr_left fun c hc => ?_
  rw [rdyL_eq h.num.nodup] at hc
  exact pOf_mem h.num (List.mem_filter.1 hc).1
theorem pOf_rof (h : DepOk R) (k : Int) : (rof R k (-1)).map (pOf R) = vwP R k := by
  rw [rof, List.map_map, vwP]
  have e : R.filter (rfB k (-1)) = R.filter fun c => c.at' == k && c.st != 0 := by
    refine List.filter_congr fun c hc => ?_
    rcases h.st c hc with h1 | h1 | h1 <;> simp [rfB, h1]
  rw [e]
  refine List.map_congr_left fun c hc => pOf_mem h.num (List.mem_filter.1 hc).1
theorem rof_fly (R : List Ch) (k : Int) : rof R k 2 = ofN R k 2 := by
  rw [rof, ofN]
  congr 1
  refine List.filter_congr fun c _ => ?_
  simp [rfB]
def r4p (d l q m n : Nat) : Nat := if n = 0 then d else if n = 1 then l else if n = 2 then q else m
def hRm (V : DV) (W : List (List Int × Option Addr × Nat)) (ns : List Int) : HL := [(0, some (false, .cells [.nm 1] 28)), (1, some (false, .rd 5 V.length (rdc V))), (2, some (false, .ab (frzP W))), (3, some (false, .own 3 1 ns.length (ivs ns)))]
set_option maxRecDepth 100000 in
set_option maxHeartbeats 4000000 in
theorem rpatU (hd : lookH H d = some (b1, .cells [.nm l] 28)) (hl : lookH H l = some (b2, .rd 5 V.length (rdc V))) (hq : lookH H q = some (b3, .ab (frzP W))) {ns : List Int} (hm : lookH H m = some (b4, .own 3 1 ns.length (ivs ns))) (h : RR V W R) (hn : ∀ n ∈ ns, 1 ≤ n ∧ n ≤ (R.length : Int)) (zn : ns.length ≤ 1024) (s : ByteArray) (hs : s.size = 64) :
    FnH Try.prog 55 [.c (.p d 0), .c (.s s), .c (.nm m)] H nx ⟨.t (.c (.s (pt s (ns.map (pOf R))))), [], [], []⟩ := by
  refine fnR (fn := Try.f55) 29 rfl rfl rfl (args' := [.c (.p 0 0), .c (.s s), .c (.nm 3)]) (H' := hRm V W ns) (nx' := 4) (fun e w M => ⟨_, mem_rd (r4p d l q m) (H' := hRm V W ns) ⟨⟨b1, hd⟩, ⟨b2, hl⟩, ⟨b3, hq⟩, ⟨b4, hm⟩, trivial⟩ M, rfl⟩) rfl rfl rfl rfl fun w => ?_
  show At _ _ _ _ _ _ [(0, some (false, .cells [.nm 1] 28)), (1, some (false, .rd 5 V.length (rdc V))), (2, some (false, .ab (frzP W))), (3, some (false, .own 3 1 ns.length (ivs ns)))] 4
  have hVl := h.len
  have hz := h.z
  have hpt0 : s = pt s [] := by
    have e : pt s [] = S (patchAll s.data.toList []) := by rw [pt, if_pos (pte_ok hs (by simp) (by simp))]
    rw [e]; rfl
  refine rn [] rfl (by repeat' (first | exact trivial | exact rfl | refine And.intro ?_ ?_)) ?_
  refine At.loop (X := (j : Nat) ×' (j ≤ ns.length)) 4 (fun x => ns.length - x.1)
    (fun x => [(0, .t (.c (.p 0 0))), (1, .t (.c (.s (pt s ((ns.take x.1).map (pOf R)))))), (2, .t (.c (.nm 3))), (7, .t (.c (iT (x.1 : Nat))))])
    (fun _ => [(0, some (false, .cells [.nm 1] 28)), (1, some (false, .rd 5 V.length (rdc V))), (3, some (false, .own 3 1 ns.length (ivs ns)))]) ⟨0, by omega⟩ [] (fun x => wf rfl rfl) (by (repeat' (first | exact trivial | exact rfl | exact trivial | exact fun _ => trivial | exact hpt0 | refine And.intro ?_ ?_))) (by repeat' (first | exact trivial | exact rfl | refine And.intro ?_ ?_)) rfl fun x => ?_
  obtain ⟨j, hj⟩ := x
  have w3 : IntKind.i64.wrap ((j : Int) + 1) = ((j + 1 : Nat) : Int) := by rw [wrap_sm (by omega) (by omega)]; omega
  refine rn [] rfl (by repeat' (first | exact trivial | exact rfl | refine And.intro ?_ ?_)) ?_
  refine ⟨fun h1 => ?_, fun h1 => ?_⟩
  · have hlt : j < ns.length := by have : (j : Int) < (ns.length : Int) := of_decide_eq_true h1; omega
    clear h1
    have e1 : (ivs ns)[(j : Int).toNat * 1]? = some (.int .i64 ns[j]) := by simpa using ivs_at hlt
    have b0 : (0 : Int) ≤ (j : Int) := by omega
    have b1 : (j : Int) < (ns.length : Int) := by omega
    obtain ⟨g1, g2⟩ := hn ns[j] (List.getElem_mem hlt)
    have hpre : (ns.take (j + 1)).map (pOf R) = (ns.take j).map (pOf R) ++ [pOf R ns[j]] := by rw [List.take_succ_eq_append_getElem hlt, List.map_append]; rfl
    have hokp : ∀ p ∈ (ns.take (j + 1)).map (pOf R), okp p = true := fun p hp => by
      obtain ⟨n, hn', rfl⟩ := List.mem_map.1 hp
      obtain ⟨q1, q2⟩ := hn n (List.mem_of_mem_take hn')
      obtain ⟨t, ht⟩ : ∃ t : Nat, n - 1 = (t : Int) := ⟨(n - 1).toNat, by omega⟩
      rw [pOf_at (by omega) ht]
      exact h.okp _ (List.getElem_mem _)
    rw [hpre] at hokp
    obtain ⟨p, hp⟩ : ∃ p : Nat, ns[j] - 1 = (p : Int) := ⟨(ns[j] - 1).toNat, by omega⟩
    have hpV : p < V.length := by omega
    have hpR : p < R.length := by omega
    have hpo := pOf_at hpR hp
    have hsn := pt_snoc (s := s) hs (by rw [List.length_map, List.length_take]; omega) hokp
    rw [← hpre] at hsn
    have hsz := pt_size (s := s) (l := (ns.take j).map (pOf R)) hs (by rw [List.length_map, List.length_take]; omega) fun q hq => hokp q (List.mem_append.2 (.inl hq))
    have hone := done0 (pt s ((ns.take j).map (pOf R))) (pOf R ns[j]) hsz (hokp _ (by simp))
    rw [hsn, hpo] at hone
    generalize hnn : ns[j] = n at *
    have wn : IntKind.i64.wrap (n - 1) = (p : Int) := by rw [wrap_sm (by omega) (by omega)]; exact hp
    obtain ⟨_, f1, f2, _⟩ := rdc_f hpV
    rw [h.at hpV hpR, ← wn] at f1 f2
    have d2 : (0 : Int) ≤ IntKind.i64.wrap (n - 1) := by omega
    have d3 : IntKind.i64.wrap (n - 1) < (V.length : Int) := by omega
    have d4 : (IntKind.i64.wrap (n - 1)).toNat * 5 < (rdc V).length := by rw [rdc_length, wn, Int.toNat_natCast]; omega
    refine rn [(22, .ld [iT n]), (26, .ld [iT R[p].off, .s R[p].by']), (27, .ret (.t (.c (.s (pt s ((ns.take (j + 1)).map (pOf R)))))))] rfl (by (repeat' (first | exact trivial | exact rfl | exact trivial | exact fun _ => trivial | first | exact hone | exact e1 | exact ⟨e1, trivial⟩ | exact f1 | exact f2 | exact ⟨f1, f2, trivial⟩ | exact b0 | exact b1 | exact d2 | exact d3 | exact d4 | decide | refine And.intro ?_ ?_))) ?_
    exact roundEnd ⟨j + 1, by omega⟩ [] (by show ns.length - (j + 1) < ns.length - j; omega) (by (repeat' (first | exact trivial | exact rfl | exact w3 | exact fun _ => w3 | refine And.intro ?_ ?_))) (by repeat' (first | exact trivial | exact rfl | refine And.intro ?_ ?_)) rfl
  · have hge : j = ns.length := by have : ¬ (j : Int) < (ns.length : Int) := of_decide_eq_false h1; omega
    have hw : ns.take j = ns := by rw [hge, List.take_length]
    refine rn [] rfl (by repeat' (first | exact trivial | exact rfl | refine And.intro ?_ ?_)) (roundExit rfl ?_)
    rw [hw]
    refine rnA [] rfl (by repeat' (first | exact trivial | exact rfl | refine And.intro ?_ ?_)) ?_
    exact ret0 tysOk rfl (by repeat' (first | exact trivial | exact rfl | refine And.intro ?_ ?_)) rfl
theorem pt_bad {s : ByteArray} (hs : s.size ≠ 64) (l : List Pt) : pt s l = ⟨#[]⟩ ∧ pte s l = 4 := by
  have h : pte s l = 4 := if_pos hs
  exact ⟨by rw [pt, h]; rfl, h⟩
theorem rdyN_in (h : DepOk R) {k n : Int} (hn : n ∈ rdyN R k) : 1 ≤ n ∧ n ≤ (R.length : Int) := by
  obtain ⟨c, hc, rfl, _⟩ := rdyN_ok hn
  exact h.num.le hc
theorem rof_in (h : DepOk R) {k s n : Int} (hn : n ∈ rof R k s) : 1 ≤ n ∧ n ≤ (R.length : Int) := by
  obtain ⟨c, hc, rfl⟩ := List.mem_map.1 hn
  exact h.num.le (List.mem_filter.1 hc).1
theorem rdyN_le (R : List Ch) (k : Int) : (rdyN R k).length ≤ R.length := accR_le R k R.length
theorem vwP_okp (h : ∀ c ∈ R, okp (c.off, c.by') = true) (k : Int) : ∀ p ∈ vwP R k, okp p = true := fun p hp => by
  obtain ⟨c, hc, rfl⟩ := List.mem_map.1 hp
  exact h c (List.mem_filter.1 hc).1
theorem rdyP_okp (hd : DepOk R) (h : ∀ c ∈ R, okp (c.off, c.by') = true) (k : Int) : ∀ p ∈ rdyP R k, okp p = true := fun p hp => by
  obtain ⟨c, hc, rfl⟩ := List.mem_map.1 hp
  rw [rdyL_eq hd.num.nodup] at hc
  exact h c (List.mem_filter.1 hc).1
theorem rimageU (hd : lookH H d = some (b1, .cells [.nm l] 28)) (hl : lookH H l = some (b2, .rd 5 V.length (rdc V))) (hq : lookH H q = some (b3, .ab (frzP W))) (h : RR V W R) (hsml : R.length ≤ 1000) (k : Int) (s : ByteArray) :
    FnH Try.prog 29 [.c (.p d 0), .c (iT k), .c (.s s)] H nx ⟨.tup [.c (.s (pt s (rdyP R k))), .c (iT (pte s (rdyP R k)))], [], [], []⟩ := by
  refine fnR (fn := Try.f29) 17 rfl rfl rfl (args' := [.c (.p 0 0), .c (iT k), .c (.s s)]) (H' := hRr V W) (nx' := 3) (fun e w M => ⟨_, mem_rd (r3p d l q) (memRr hd hl hq) M, rfl⟩) rfl rfl rfl rfl fun w => ?_
  show At _ _ _ _ _ _ [(0, some (false, .cells [.nm 1] 28)), (1, some (false, .rd 5 V.length (rdc V))), (2, some (false, .ab (frzP W)))] 3
  by_cases hs : s.size = 64
  · have g1 : ((s.size : Int) != 64) = false := by simp; omega
    have hle := rdyN_le R k
    have hr := fun (H : HL) (nx : Nat) (h0 : lookH H 0 = some (false, .cells [.nm 1] 28)) (h1 : lookH H 1 = some (false, .rd 5 V.length (rdc V))) (h2 : lookH H 2 = some (false, .ab (frzP W))) => rreadyU (nx := nx) h0 h1 h2 h k
    have hp := fun (H : HL) (nx : Nat) (h0 : lookH H 0 = some (false, .cells [.nm 1] 28)) (h1 : lookH H 1 = some (false, .rd 5 V.length (rdc V))) (h2 : lookH H 2 = some (false, .ab (frzP W))) (h3 : lookH H 3 = some (true, .own 3 1 (rdyN R k).length (ivs (rdyN R k)))) => rpatU (nx := nx) h0 h1 h2 h3 h (fun n hn => rdyN_in h.dep hn) (by omega) s hs
    rw [pOf_rdy h.dep] at hp
    have hpl : (rdyP R k).length ≤ 1024 := by rw [rdyP, List.length_map]; have := rdyT_le R k R.length; simp [rdyL]; omega
    have e0 : pte s (rdyP R k) = 0 := pte_ok hs hpl (rdyP_okp h.dep h.okp k)
    rw [e0]
    refine rn [(10, .dec false), (15, .spec ⟨.t (.c (.nm 3)), [(true, .own 3 1 (rdyN R k).length (ivs (rdyN R k)))], [], []⟩), (16, .spec ⟨.t (.c (.s (pt s (rdyP R k)))), [], [], []⟩)] rfl (by (repeat' (first | exact trivial | exact rfl | exact trivial | exact fun _ => trivial | first | exact g1 | exact hr _ _ rfl rfl rfl | exact hp _ _ rfl rfl rfl rfl | refine And.intro ?_ ?_))) ?_
    exact ret0 tysOk rfl (by repeat' (first | exact trivial | exact rfl | refine And.intro ?_ ?_)) rfl
  · have g1 : ((s.size : Int) != 64) = true := by simp; omega
    obtain ⟨e1, e2⟩ := pt_bad hs (rdyP R k)
    rw [e1, e2]
    refine rn [(10, .dec true)] rfl (by (repeat' (first | exact trivial | exact rfl | exact trivial | exact fun _ => trivial | exact g1 | refine And.intro ?_ ?_))) ?_
    exact ret0 tysOk rfl (by repeat' (first | exact trivial | exact rfl | refine And.intro ?_ ?_)) rfl
theorem rviewU (hd : lookH H d = some (b1, .cells [.nm l] 28)) (hl : lookH H l = some (b2, .rd 5 V.length (rdc V))) (hq : lookH H q = some (b3, .ab (frzP W))) (h : RR V W R) (hsml : R.length ≤ 1000) (k : Int) (s : ByteArray) :
    FnH Try.prog 31 [.c (.p d 0), .c (iT k), .c (.s s)] H nx ⟨.tup [.c (.s (pt s (vwP R k))), .c (iT (pte s (vwP R k)))], [], [], []⟩ := by
  refine fnR (fn := Try.f31) 17 rfl rfl rfl (args' := [.c (.p 0 0), .c (iT k), .c (.s s)]) (H' := hRr V W) (nx' := 3) (fun e w M => ⟨_, mem_rd (r3p d l q) (memRr hd hl hq) M, rfl⟩) rfl rfl rfl rfl fun w => ?_
  show At _ _ _ _ _ _ [(0, some (false, .cells [.nm 1] 28)), (1, some (false, .rd 5 V.length (rdc V))), (2, some (false, .ab (frzP W)))] 3
  by_cases hs : s.size = 64
  · have g1 : ((s.size : Int) != 64) = false := by simp; omega
    have hle := rof_le R k (-1)
    have hr := fun (H : HL) (nx : Nat) (h0 : lookH H 0 = some (false, .cells [.nm 1] 28)) (h1 : lookH H 1 = some (false, .rd 5 V.length (rdc V))) (h2 : lookH H 2 = some (false, .ab (frzP W))) => rofU (nx := nx) h0 h1 h2 h k (-1)
    have hp := fun (H : HL) (nx : Nat) (h0 : lookH H 0 = some (false, .cells [.nm 1] 28)) (h1 : lookH H 1 = some (false, .rd 5 V.length (rdc V))) (h2 : lookH H 2 = some (false, .ab (frzP W))) (h3 : lookH H 3 = some (true, .own 3 1 (rof R k (-1)).length (ivs (rof R k (-1))))) => rpatU (nx := nx) h0 h1 h2 h3 h (fun n hn => rof_in h.dep hn) (by omega) s hs
    rw [pOf_rof h.dep] at hp
    have hpl : (vwP R k).length ≤ 1024 := by rw [vwP, List.length_map]; have := List.length_filter_le (fun c : Ch => c.at' == k && c.st != 0) R; omega
    have e0 : pte s (vwP R k) = 0 := pte_ok hs hpl (vwP_okp h.okp k)
    rw [e0]
    refine rn [(10, .dec false), (15, .spec ⟨.t (.c (.nm 3)), [(true, .own 3 1 (rof R k (-1)).length (ivs (rof R k (-1))))], [], []⟩), (16, .spec ⟨.t (.c (.s (pt s (vwP R k)))), [], [], []⟩)] rfl (by (repeat' (first | exact trivial | exact rfl | exact trivial | exact fun _ => trivial | first | exact g1 | exact hr _ _ rfl rfl rfl | exact hp _ _ rfl rfl rfl rfl | refine And.intro ?_ ?_))) ?_
    exact ret0 tysOk rfl (by repeat' (first | exact trivial | exact rfl | refine And.intro ?_ ?_)) rfl
  · have g1 : ((s.size : Int) != 64) = true := by simp; omega
    obtain ⟨e1, e2⟩ := pt_bad hs (vwP R k)
    rw [e1, e2]
    refine rn [(10, .dec true)] rfl (by (repeat' (first | exact trivial | exact rfl | exact trivial | exact fun _ => trivial | exact g1 | refine And.intro ?_ ?_))) ?_
    exact ret0 tysOk rfl (by repeat' (first | exact trivial | exact rfl | refine And.intro ?_ ?_)) rfl
theorem risU (hd : lookH H d = some (b1, .cells [.nm l] 28)) (hl : lookH H l = some (b2, .rd 5 V.length (rdc V))) (hq : lookH H q = some (b3, .ab (frzP W))) (h : RR V W R) (n : Int) :
    FnH Try.prog 13 [.c (.p d 0), .c (iT n)] H nx ⟨.tup [.c (iT (isR' R n)), .c (iT (isE' R.length n))], [], [], []⟩ := by
  refine fnR (fn := Try.f13) 26 rfl rfl rfl (args' := [.c (.p 0 0), .c (iT n)]) (H' := hRr V W) (nx' := 3) (fun e w M => ⟨_, mem_rd (r3p d l q) (memRr hd hl hq) M, rfl⟩) rfl rfl rfl rfl fun w => ?_
  show At _ _ _ _ _ _ [(0, some (false, .cells [.nm 1] 28)), (1, some (false, .rd 5 V.length (rdc V))), (2, some (false, .ab (frzP W)))] 3
  have hVl := h.len
  have hz := h.z
  by_cases hc : 1 ≤ n ∧ n ≤ (R.length : Int)
  · have e1 : isR' R n = stOf n R := if_pos hc
    have e2 : isE' R.length n = 0 := if_pos hc
    obtain ⟨p, hp⟩ : ∃ p : Nat, n - 1 = (p : Int) := ⟨(n - 1).toNat, by omega⟩
    have hpV : p < V.length := by omega
    have hpR : p < R.length := by omega
    have wn : IntKind.i64.wrap (n - 1) = (p : Int) := by rw [wrap_sm (by omega) (by omega)]; exact hp
    have hst : stOf n R = R[p].st := by
      rw [h.dep.num.st hc.1 hc.2]
      have : n.toNat - 1 = p := by omega
      simp only [this]
    obtain ⟨_, _, _, f4⟩ := rdc_f hpV
    rw [h.at hpV hpR, ← wn] at f4
    have d2 : (0 : Int) ≤ IntKind.i64.wrap (n - 1) := by omega
    have d3 : IntKind.i64.wrap (n - 1) < (V.length : Int) := by omega
    have d4 : (IntKind.i64.wrap (n - 1)).toNat * 5 < (rdc V).length := by rw [rdc_length, wn, Int.toNat_natCast]; omega
    have g1 : (decide (n < 1) || decide ((V.length : Int) < n)) = false := by
      rw [Bool.or_eq_false_iff]
      exact ⟨decide_eq_false (by omega), decide_eq_false (by omega)⟩
    rw [e1, e2, hst]
    refine rn [(16, .dec false), (25, .ld [iT R[p].st])] rfl (by (repeat' (first | exact trivial | exact rfl | exact trivial | exact fun _ => trivial | first | exact g1 | exact f4 | exact ⟨f4, trivial⟩ | exact d2 | exact d3 | exact d4 | decide | refine And.intro ?_ ?_))) ?_
    exact ret0 tysOk rfl (by repeat' (first | exact trivial | exact rfl | refine And.intro ?_ ?_)) rfl
  · have e1 : isR' R n = 0 := if_neg hc
    have e2 : isE' R.length n = 5 := if_neg hc
    have g1 : (decide (n < 1) || decide ((V.length : Int) < n)) = true := by
      rw [Bool.or_eq_true, decide_eq_true_eq, decide_eq_true_eq]
      omega
    rw [e1, e2]
    refine rn [(16, .dec true)] rfl (by (repeat' (first | exact trivial | exact rfl | exact trivial | exact fun _ => trivial | exact g1 | refine And.intro ?_ ?_))) ?_
    exact ret0 tysOk rfl (by repeat' (first | exact trivial | exact rfl | refine And.intro ?_ ?_)) rfl
def uno (R : List Ch) : List Int := (und R).map Ch.no
theorem uno_succ {R : List Ch} (h : numd R) {i : Nat} (hi : i < R.length) : uno (R.take (i + 1)) = if (R[i].st != 0) = true then uno (R.take i) ++ [(i : Int) + 1] else uno (R.take i) := by
  rw [uno, List.take_succ_eq_append_getElem hi, und, List.filter_append, List.map_append, ← und, ← uno]
  split
  · rename_i h1
    rw [filt1 (fun c : Ch => c.st != 0) h1, List.map_cons, h i hi]; rfl
  · rename_i h1
    rw [filt0 (fun c : Ch => c.st != 0) h1]; simp
theorem uno_le (R : List Ch) : (uno R).length ≤ R.length := by rw [uno, List.length_map]; exact List.length_filter_le _ _
set_option maxRecDepth 100000 in
set_option maxHeartbeats 4000000 in
theorem rallU (hd : lookH H d = some (b1, .cells [.nm l] 28)) (hl : lookH H l = some (b2, .rd 5 V.length (rdc V))) (hq : lookH H q = some (b3, .ab (frzP W))) (h : RR V W R) :
    FnH Try.prog 34 [.c (.p d 0)] H nx ⟨.t (.c (.nm nx)), [(true, .own 3 1 (uno R).length (ivs (uno R)))], [], []⟩ := by
  refine fnN (fn := Try.f34) 29 rfl rfl rfl (args' := [.c (.p 0 0)]) (H' := hRr V W) (nx' := 3) (fun e w M => ⟨_, mem_rd (r3p d l q) (memRr hd hl hq) M, rfl⟩) rfl rfl rfl (inR_one _) rfl fun w => ?_
  show At _ _ _ _ _ _ [(0, some (false, .cells [.nm 1] 28)), (1, some (false, .rd 5 V.length (rdc V))), (2, some (false, .ab (frzP W)))] 3
  have hVl := h.len
  have hz := h.z
  refine rn [] rfl (by repeat' (first | exact trivial | exact rfl | refine And.intro ?_ ?_)) ?_
  refine At.nil 3 3 1 rfl ?_
  refine At.loop (X := (i : Nat) ×' (i ≤ V.length)) 4 (fun x => V.length - x.1)
    (fun x => [(0, .t (.c (.p 0 0))), (3, .t (.c (.nm 3))), (4, .t (.c (iT (x.1 : Nat))))])
    (fun x => [(0, some (false, .cells [.nm 1] 28)), (1, some (false, .rd 5 V.length (rdc V))), (3, some (true, .own 3 1 (uno (R.take x.1)).length (ivs (uno (R.take x.1)))))]) ⟨0, by omega⟩ [] (fun x => wf rfl rfl) (by repeat' (first | exact trivial | exact rfl | refine And.intro ?_ ?_)) (by repeat' (first | exact trivial | exact rfl | refine And.intro ?_ ?_)) rfl fun x => ?_
  obtain ⟨i, hi⟩ := x
  have w3 : IntKind.i64.wrap ((i : Int) + 1) = ((i + 1 : Nat) : Int) := by rw [wrap_sm (by omega) (by omega)]; omega
  refine rn [] rfl (by repeat' (first | exact trivial | exact rfl | refine And.intro ?_ ?_)) ?_
  refine ⟨fun h1 => ?_, fun h1 => ?_⟩
  · have hlt : i < V.length := by have : (i : Int) < (V.length : Int) := of_decide_eq_true h1; omega
    clear h1
    have hlR : i < R.length := by omega
    obtain ⟨_, _, _, f4⟩ := rdc_f hlt
    rw [h.at hlt hlR] at f4
    have b0 : (0 : Int) ≤ (i : Int) := by omega
    have b1 : (i : Int) < (V.length : Int) := by omega
    have c5 : (i : Int).toNat * 5 < (rdc V).length := by rw [rdc_length]; omega
    have hsu := uno_succ h.dep.num hlR
    have hle := uno_le (R.take i)
    rw [List.length_take] at hle
    have m1 : (uno (R.take i)).length + 1 ≤ maxLen := by simp [maxLen]; omega
    have m2 : ((uno (R.take i)).length + 1) * 8 ≤ 140737488355328 := by omega
    have hw : (i : Int) + 1 = ((i + 1 : Nat) : Int) := by omega
    cases cs : R[i].st != 0 with
    | true =>
      rw [cs, if_pos rfl] at hsu
      refine rn [(21, .ld [iT R[i].st]), (22, .dec true)] rfl (by (repeat' (first | exact trivial | exact rfl | exact trivial | exact fun _ => trivial | first | exact f4 | exact ⟨f4, trivial⟩ | exact b0 | exact b1 | exact c5 | exact cs | exact m1 | exact m2 | rfl | decide | refine And.intro ?_ ?_))) ?_
      refine roundEnd ⟨i + 1, by omega⟩ [(3, 5)] (by show V.length - (i + 1) < V.length - i; omega) (by (repeat' (first | exact trivial | exact rfl | exact w3 | exact fun _ => w3 | refine And.intro ?_ ?_))) ?_ rfl
      repeat' (first | exact trivial | exact rfl | refine And.intro ?_ ?_)
      · rw [hsu]; simp
      · rw [hsu, app_eq, w3, ← hw]; simp [ivs]; rfl
    | false =>
      rw [cs, if_neg (by decide)] at hsu
      refine rn [(21, .ld [iT R[i].st]), (22, .dec false)] rfl (by (repeat' (first | exact trivial | exact rfl | exact trivial | exact fun _ => trivial | first | exact f4 | exact ⟨f4, trivial⟩ | exact b0 | exact b1 | exact c5 | exact cs | rfl | decide | refine And.intro ?_ ?_))) ?_
      exact roundEnd ⟨i + 1, by omega⟩ [] (by show V.length - (i + 1) < V.length - i; omega) (by (repeat' (first | exact trivial | exact rfl | exact w3 | exact fun _ => w3 | refine And.intro ?_ ?_))) (by (repeat' (first | exact trivial | exact rfl | exact trivial | exact fun _ => trivial | first | exact congrArg List.length hsu.symm | exact congrArg ivs hsu.symm | refine And.intro ?_ ?_))) rfl
  · have hge : i = V.length := by have : ¬ (i : Int) < (V.length : Int) := of_decide_eq_false h1; omega
    have hw : R.take i = R := by rw [hge, hVl, List.take_length]
    refine rn [] rfl (by repeat' (first | exact trivial | exact rfl | refine And.intro ?_ ?_)) (roundExit rfl ?_)
    rw [hw]
    refine rnA [] rfl (by repeat' (first | exact trivial | exact rfl | refine And.intro ?_ ?_)) ?_
    exact retN tysOk [(nx, 3)] rfl (by simp only [retS, SV.eqs, eqsT, TV.eqs, CV.eqs, ren_one]; repeat' (first | exact trivial | exact rfl | refine And.intro ?_ ?_)) (by simp only [newsH, subH, ren_one]; repeat' (first | exact trivial | exact rfl | refine And.intro ?_ ?_)) (by simp [injK, keysH, newsH, inL]) rfl
end
end Cw
