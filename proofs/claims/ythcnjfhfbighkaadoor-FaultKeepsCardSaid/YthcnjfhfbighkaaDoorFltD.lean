/- Package fault walked: Code, Steps. -/
import Derived.Test.YthcnjfhfbighkaaDoorFltC
namespace Vc
open Go Go.RowKit
/-- A block's cells, told otherwise. -/
theorem Sat.recell {F : Frm} {L' : LF} {H : HL} {d : Nat} {cs cs' : List CV} {T : TypeId} {b : Bool} {e : Env} {a : Act} {w : World} (S : Sat F L' (lookH H) e a w) (hd : lookH H d = some (b, .cells cs T)) (he : cs'.map (CV.den e) = cs.map (CV.den e)) : Sat F L' (lookH ((d, some (b, .cells cs' T)) :: H)) e a w := by
  refine ⟨S.fr, S.sz, S.df, S.sl, fun n c o hz => ?_, fun n o m c q hn hm hne g hg hg' => ?_⟩
  · rw [lookH_cons] at hz
    split at hz
    · rename_i hn
      cases hz
      subst hn
      obtain ⟨h3, h4⟩ := S.ob n b _ hd
      exact ⟨⟨h3.1, by rw [he]; exact h3.2⟩, h4⟩
    · exact S.ob n c o hz
  · rw [lookH_cons] at hn hm
    split at hn
    · rename_i h2
      cases hn
      subst h2
      rw [if_neg (fun h => hne h.symm)] at hm
      exact S.dj n _ m c q hd hm hne g hg hg'
    · split at hm
      · rename_i h2
        cases hm
        subst h2
        exact S.dj n o _ _ _ hn hd hne g hg hg'
      · exact S.dj n o m c q hn hm hne g hg hg'
theorem wf_raw {L : LL} {H : HL} {nx d : Nat} {cs : List CV} {v : Value} {T : TypeId} {b : Bool} (hW : WF L H nx) (hd : lookH H d = some (b, .cells cs T)) : WF L ((d, some (b, .cells [.raw v] T)) :: H) nx :=
  ⟨hW.l, fun n z hz => by
    rw [lookH_cons] at hz
    split at hz
    · rename_i hn
      cases hz
      subst hn
      exact ⟨(hW.h n _ hd).1, fun m hm => by simp [Ob.ns, CV.ns, flatN] at hm⟩
    · exact hW.h n z hz⟩
section
variable {P : Program} {F : Frm} {c : Code} {ks : List KI} {L : LL} {H : HL} {nx : Nat}
theorem At.cellNp {Q : Exit → Act → World → Prop} (d : Nat) {b : Bool} {T : TypeId} (hd : lookH H d = some (b, .cells [.np] T)) (h : At P F Q c ks L ((d, some (b, .cells [.raw (.pointer none)] T)) :: H) nx) : At P F Q c ks L H nx :=
  ⟨fun hW e a w S => h.h (wf_raw hW hd) e a w (S.recell hd rfl)⟩
theorem Done.cellP {Q : Act → World → Prop} (d p m q : Nat) {b bp : Bool} {T : TypeId} (hd : lookH H d = some (b, .cells [.p m 0] T)) (hp : lookH H p = some (bp, .pin m q)) (h : Done F Q L ((d, some (b, .cells [.raw (.pointer (some ⟨q, 0, none⟩))] T)) :: H) nx) : Done F Q L H nx :=
  ⟨fun hW e a w S => h.h (wf_raw hW hd) e a w (S.recell hd (by
    have hb : e.blk m = q := (S.ob p bp _ hp).1.2
    simp [CV.den, hb]))⟩
end
end Vc
namespace Cw
open Go Vc
open Go.Proofs
set_option maxRecDepth 100000
def rE (k g : Nat) : Nat → Nat
  | 0 => k
  | _ => g
def stp (s : ByteArray × Int) : List Value := [.string s.1, .int .i64 s.2]
def stS (s : List (ByteArray × Int)) : List Value := fcs stp s
theorem stS_len (s : List (ByteArray × Int)) : (stS s).length = s.length * 2 := fcs_length (f := stp) (c := 2) (fun _ => rfl) s
section
variable {H : HL} {nx k g : Nat} {bk bg : Bool} {c : Int} {l : List Sp}
theorem memE (hk : lookH H k = some (bk, .ab (errQ c l))) (hg : lookH H g = some (bg, .ab gP)) : ∀ e w, MemOk H e w → ∃ e', Mem (fun _ => False) [(0, some (false, .ab (errQ c l))), (1, some (false, .ab gP))] e' w ∧ ([.c (.nm k)] : List TV).map (TV.den e) = ([.c (.raw (evV c l))] : List TV).map (TV.den e') := by
  intro e w M
  refine ⟨e.comp (rE k g), mem_rd (rE k g) (H' := [(0, some (false, .ab (errQ c l))), (1, some (false, .ab gP))]) ⟨⟨bk, hk⟩, ⟨bg, hg⟩, trivial⟩ M, ?_⟩
  obtain ⟨⟨h1, _⟩, _⟩ := (M.ob k bk _ hk).1
  simp [TV.den, CV.den, h1]
/-- The number of an error. -/
theorem codeQ (hk : lookH H k = some (bk, .ab (errQ c l))) (hg : lookH H g = some (bg, .ab gP)) (h0 : c = 0 → l = []) : FnH Tryd.prog 16 [.c (.nm k)] H nx ⟨.t (.c (iT c)), [], [], []⟩ := by
  refine fnR (fn := Tryd.f16) 12 rfl rfl rfl (args' := [.c (.raw (evV c l))]) (H' := [(0, some (false, .ab (errQ c l))), (1, some (false, .ab gP))]) (nx' := 2) (memE hk hg) rfl rfl rfl rfl fun w => ?_
  refine rn [(20002, .dec true)] rfl (by repeat' (first | exact trivial | exact rfl | refine And.intro ?_ ?_)) ?_
  refine At.pin 2 rfl fun q => ?_
  by_cases hc : c = 0
  · refine rn [(6, .spec ⟨.t (.c (.b true)), [], [], []⟩), (4, .dec true)] rfl (by (repeat' (first | exact trivial | exact rfl | exact trivial | exact fun _ => trivial | first | exact spec_en (r := true) (by simp [hc]) rfl (at_raw rfl h0) | rfl | decide | refine And.intro ?_ ?_))) ?_
    subst hc
    exact ret0 tysOk rfl (by repeat' (first | exact trivial | exact rfl | refine And.intro ?_ ?_)) rfl
  · refine rn [(6, .spec ⟨.t (.c (.b false)), [], [], []⟩), (9, .spec ⟨.t (.c (.raw (.iface 57 (.pointer (some ⟨q, 0, none⟩))))), [], [], []⟩), (10, .spec ⟨.t (.c (.b true)), [], [(2, some (.cells [iT c] 22))], []⟩), (4, .dec false), (7, .dec true)] rfl (by (repeat' (first | exact trivial | exact rfl | exact trivial | exact fun _ => trivial | first | exact spec_en (r := false) (by simp [hc]) rfl (at_raw rfl h0) | exact spec_mkP (p := 3) (T := 57) (by kernel_rfl) rfl rfl rfl | exact fAs_code (k := 0) (g := 1) (p := 3) hc rfl rfl rfl rfl | rfl | decide | refine And.intro ?_ ?_))) ?_
    exact ret0 tysOk rfl (by repeat' (first | exact trivial | exact rfl | refine And.intro ?_ ?_)) rfl
set_option maxRecDepth 100000 in
set_option maxHeartbeats 4000000 in
/-- The steps of an error. -/
theorem stepsQ (hk : lookH H k = some (bk, .ab (errQ c l))) (hg : lookH H g = some (bg, .ab gP)) (hl : l.length ≤ 1000) :
    FnH Tryd.prog 15 [.c (.nm k)] H nx ⟨.t (.c (.nm nx)), [(true, .own 46 2 l.length (stS (l.map (·.2))))], [], []⟩ := by
  refine fnN (fn := Tryd.f15) 25 rfl rfl rfl (args' := [.c (.raw (evV c l))]) (H' := [(0, some (false, .ab (errQ c l))), (1, some (false, .ab gP))]) (nx' := 2) (memE hk hg) rfl rfl rfl (inR_one nx) rfl fun w => ?_
  refine rn [] rfl (by repeat' (first | exact trivial | exact rfl | refine And.intro ?_ ?_)) ?_
  refine At.nil 3 46 2 rfl ?_
  refine At.pin 2 rfl fun q => ?_
  refine At.cellNp 2 rfl ?_
  refine At.loop (X := (j : Nat) ×' (_ : Value) ×' (j ≤ l.length)) 5 (fun x => l.length - x.1)
    (fun x => [(0, .t (.c (.raw (evV c (l.drop x.1))))), (3, .t (.c (.nm 3))), (4, .t (.c (.p 2 0)))])
    (fun x => [(0, some (false, .ab (errQ c l))), (1, some (false, .ab gP)), (2, some (true, .cells [.raw x.2.1] 51)), (3, some (true, .own 46 2 x.1 (stS ((l.take x.1).map (·.2))))), (4, some (false, .pin 2 q))])
    ⟨0, .pointer none, by omega⟩ [] (fun x => wf rfl rfl) (by repeat' (first | exact trivial | exact rfl | refine And.intro ?_ ?_)) (by repeat' (first | exact trivial | exact rfl | refine And.intro ?_ ?_)) rfl fun x => ?_
  obtain ⟨j, fv, hj⟩ := x
  by_cases hlt : j < l.length
  · refine At.num l[j].1 ?_
    have hd : l.drop j = l[j] :: l.drop (j + 1) := List.drop_eq_getElem_cons hlt
    have hh : ∀ (H : HL) (nx : Nat), lookH H 5 = some (false, .pin 5 l[j].1) → lookH H 1 = some (false, .ab gP) → lookH H 2 = some (true, .cells [.raw fv] 51) → lookH H 4 = some (false, .pin 2 q) →
        FnH Tryd.prog 20 [.c (.raw (evV c (l.drop j))), .c (.raw (.iface 56 (.pointer (some ⟨q, 0, none⟩))))] H nx ⟨.t (.c (.b true)), [], [(2, some (.cells [.p 5 0] 51))], []⟩ := by
      intro H nx a1 a2 a3 a4
      rw [hd]
      exact fAs_hit a1 a2 a3 a4
    have m1 : j + 1 ≤ maxLen := by simp [maxLen]; omega
    have m2 : (j + 1) * 24 ≤ 140737488355328 := by omega
    refine rn [(6, .spec ⟨.t (.c (.raw (.iface 56 (.pointer (some ⟨q, 0, none⟩))))), [], [], []⟩), (7, .spec ⟨.t (.c (.b true)), [], [(2, some (.cells [.p 5 0] 51))], []⟩)] rfl
      (by (repeat' (first | exact trivial | exact rfl | exact trivial | exact fun _ => trivial | first | exact spec_mkP (p := 4) (T := 56) (by kernel_rfl) rfl rfl rfl | exact hh _ _ rfl rfl rfl rfl | rfl | decide | refine And.intro ?_ ?_))) ?_
    refine ⟨fun _ => ?_, fun h => absurd h (by decide)⟩
    refine rn [(30012, .dec true), (30016, .dec true), (12, .spec ⟨.t (.c (.s l[j].2.1)), [], [], []⟩), (16, .spec ⟨.t (.c (iT l[j].2.2)), [], [], []⟩), (23, .spec ⟨.t (.c (.raw (evV c (l.drop (j + 1))))), [], [], []⟩)] rfl
      (by (repeat' (first | exact trivial | exact rfl | exact trivial | exact fun _ => trivial | first | exact spec_loadE (k := 0) (j := j) (l := l) rfl rfl rfl rfl rfl hlt rfl rfl rfl | exact m1 | exact m2 | rfl | decide | refine And.intro ?_ ?_))) ?_
    refine Done.cellP 2 5 5 l[j].1 rfl rfl ?_
    have s1 : stS ((l.take (j + 1)).map (·.2)) = app (stS ((l.take j).map (·.2))) (stp l[j].2) := by
      rw [List.take_succ_eq_append_getElem hlt, List.map_append, app_eq]
      exact fcs_app stp _ _
    exact roundEnd ⟨j + 1, .pointer (some ⟨l[j].1, 0, none⟩), by omega⟩ [(3, 7)] (by show l.length - (j + 1) < l.length - j; omega) (by repeat' (first | exact trivial | exact rfl | refine And.intro ?_ ?_)) (by (repeat' (first | exact trivial | exact rfl | exact trivial | exact fun _ => trivial | exact s1.symm | refine And.intro ?_ ?_))) rfl
  · have hje : j = l.length := by omega
    have hd : l.drop j = [] := by rw [hje]; simp
    have hh : ∀ (H : HL) (nx : Nat), lookH H 1 = some (false, .ab gP) → lookH H 2 = some (true, .cells [.raw fv] 51) → lookH H 4 = some (false, .pin 2 q) →
        FnH Tryd.prog 20 [.c (.raw (evV c (l.drop j))), .c (.raw (.iface 56 (.pointer (some ⟨q, 0, none⟩))))] H nx ⟨.t (.c (.b false)), [], [], []⟩ := by
      intro H nx a2 a3 a4
      rw [hd]
      exact fAs_miss (fun _ => trivial) a2 a3 a4
    refine rn [(6, .spec ⟨.t (.c (.raw (.iface 56 (.pointer (some ⟨q, 0, none⟩))))), [], [], []⟩), (7, .spec ⟨.t (.c (.b false)), [], [], []⟩)] rfl
      (by (repeat' (first | exact trivial | exact rfl | exact trivial | exact fun _ => trivial | first | exact spec_mkP (p := 4) (T := 56) (by kernel_rfl) rfl rfl rfl | exact hh _ _ rfl rfl rfl | rfl | decide | refine And.intro ?_ ?_))) ?_
    refine ⟨fun h => absurd h (by decide), fun _ => ?_⟩
    have s2 : stS ((l.take j).map (·.2)) = stS (l.map (·.2)) := by rw [hje, List.take_length]
    refine rn [] rfl (by repeat' (first | exact trivial | exact rfl | refine And.intro ?_ ?_)) (roundExit rfl ?_)
    refine rnA [] rfl (by repeat' (first | exact trivial | exact rfl | refine And.intro ?_ ?_)) ?_
    exact retN tysOk [(nx, 3)] rfl (by simp only [retS, SV.eqs, eqsT, TV.eqs, CV.eqs, ren_one]; repeat' (first | exact trivial | exact rfl | refine And.intro ?_ ?_)) (by simp only [newsH, subH, ren_one]; (repeat' (first | exact trivial | exact rfl | exact trivial | exact fun _ => trivial | first | exact s2 | exact hje | omega | rfl | refine And.intro ?_ ?_))) (by simp [injK, keysH, newsH, inL]) rfl
end
end Cw
