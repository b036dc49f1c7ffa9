/- The walk by reckoning, for this program: a step, calls of functions that only read. -/
import Derived.Test.YtclcibpghonidaaGreatDoorVcSeat
namespace Cw
open Go Vc
open Go.Proofs
abbrev iT (x : Int) : CV := .i .i64 x
/-- A piece of text, up to where it stops. -/
theorem rn {F : Frm} {Q : Exit → Act → World → Prop} {c : Code} {ks : List KI} {L : LL} {H : HL} {nx : Nat} (orc : List (Nat × Orc)) {rk : RK} {L' : LL} {H' : HL} {nx' : Nat} {ps : List Prop}
    (h : run (step Tryz.prog tys fns orc) orc F.N 400 c ks L H nx [] = some (rk, ⟨L', H', nx'⟩, ps)) (hp : allP ps) (hg : Goal Tryz.prog F Q rk L' H' nx') : At Tryz.prog F Q c ks L H nx := At.run orc 400 (sd orc) mo h hp hg
theorem rnA {F : Frm} {Q : Exit → Act → World → Prop} {ks : List KI} {L : LL} {H : HL} {nx : Nat} (orc : List (Nat × Orc)) {rk : RK} {L' : LL} {H' : HL} {nx' : Nat} {ps : List Prop}
    (h : run (step Tryz.prog tys fns orc) orc F.N 400 .skip ks L H nx [] = some (rk, ⟨L', H', nx'⟩, ps)) (hp : allP ps) (hg : Goal Tryz.prog F Q rk L' H' nx') : Aft Tryz.prog F Q ks L H nx := Aft.run orc 400 (sd orc) mo h hp hg

/-- A function that reads memory that has names, and keeps all of it: out of a walk from names of its own. -/
theorem fnR {f : FuncId} {fn : Func} {c : Code} (N : Nat) (hf : Tryz.prog.funcs[f]? = some fn) (hb : fn.body = some c) (hN : fn.ntmps = N) {args args' : List TV} {H H' : HL} {nx nx' : Nat} {v : SV}
    (hM : ∀ e w, MemOk H e w → ∃ e', Mem (fun _ => False) H' e' w ∧ args.map (TV.den e) = args'.map (TV.den e')) (hl : Nat.ble args'.length N = true) (hW : wfL nx' (argsL 0 (args'.map .t)) = true) (hW2 : wfH nx' H' = true)
    (hv : bare v.ns = true) (hg : ∀ w, At Tryz.prog ⟨w, fun _ => False, N⟩ (bodyPost Tryz.prog fn fun en w' => en = .returned (v.den e0) ∧ RowKit.Below w.heap.size w w') c [] (argsL 0 (args'.map .t)) H' nx') : FnH Tryz.prog f args H nx ⟨v, [], [], []⟩ := by
  refine ⟨fun _ _ e w M => ?_⟩
  obtain ⟨e', M', he⟩ := hM e w M
  have := call_at N hf hb hN (args'.map .t) e' H' nx' (fun _ => False) (w := w) (by simpa using Nat.le_of_ble_eq_true hl) (wf hW hW2) M' (hg w)
  rw [List.map_map] at this
  rw [he]
  refine Calls.mono this ?_
  rintro en w' ⟨rfl, hb⟩
  exact ⟨e, by rw [bare_sv hv e], Mv.of_below hb⟩
/-- One block, or row, under the name 0. -/
theorem mem_one {H : HL} {k : Nat} {b : Bool} {o : Ob} (hk : lookH H k = some (b, o)) {e : Env} {w : World} (M : MemOk H e w) {o' : Ob} (ho : allP (o.eqs [(0, k)] o')) : Mem (fun _ => False) [(0, some (false, o'))] (e.ren [(0, k)]) w := by
  have hr : Vc.ren [(0, k)] 0 = k := rfl
  refine ⟨fun n b' q h => ?_, fun n q m c q' h => ?_⟩
  · rw [lookH_cons] at h
    split at h
    · rename_i hn
      cases h
      subst hn
      obtain ⟨h1, h2⟩ := M.ob k b o hk
      exact ⟨Ob.eqs_ok (e := e) ho h1, fun g hg => ⟨h2 g hg, fun h => by cases h⟩⟩
    · cases h
  · rw [lookH_cons] at h
    split at h
    · cases h
    · cases h
theorem bt_inj {a b : ByteArray} (h : a.toList = b.toList) : a = b := by
  rw [ByteArray.toList_eq, ByteArray.toList_eq] at h
  exact ByteArray.ext (Array.toList_inj.1 h)
theorem bt_iff2 {a b : ByteArray} : a.toList = b.toList ↔ a = b := ⟨bt_inj, fun h => h ▸ rfl⟩

theorem bq (a b : ByteArray) : (a == b) = decide (a = b) := by
  by_cases h : a = b
  · subst h
    rw [decide_eq_true rfl]
    obtain ⟨x⟩ := a
    show (x == x) = true
    simp
  · rw [decide_eq_false h]
    obtain ⟨x⟩ := a
    obtain ⟨y⟩ := b
    have : x ≠ y := fun e => h (by rw [e])
    show (x == y) = false
    simpa using this
theorem ble_self (n : Nat) : Nat.ble n n = true := by simp
theorem blt_succ (n : Nat) : Nat.blt n (n + 1) = true := by simp [Nat.blt_eq]
theorem inR_one (nx : Nat) : inR nx (nx + 1) [nx] = true := by
  unfold inR
  rw [ble_self, blt_succ]
  rfl
theorem ren_one (n k : Nat) : Vc.ren [(n, k)] n = k := by simp [Vc.ren, Vc.look]
def ivs (l : List Int) : List Value := l.map (Value.int .i64)
theorem ivs_length (l : List Int) : (ivs l).length = l.length := by simp [ivs]
theorem ivs_at {l : List Int} {k : Nat} (h : k < l.length) : (ivs l)[k]? = some (.int .i64 l[k]) := by simp [ivs, h]
end Cw
