/- A walk by reckoning: states of a walk as data (what the temporaries and the blocks are known to hold); what a step does to them; a region in the order of its text. No program in sight. -/
import Derived.WalkKit
import Derived.WalkSpells
import Derived.MapKept
import Derived.WalkLawsBesides
import Derived.Laws.AppendOwn
namespace Vc
open Go Go.RowKit Go.MapKept

def mget (k : Int) : List (Int × Value) → Option Value
  | [] => none
  | (q, v) :: l => if q = k then some v else mget k l
def mput (k : Int) (v : Value) : List (Int × Value) → List (Int × Value)
  | [] => [(k, v)]
  | (q, u) :: l => if q = k then (k, v) :: l else (q, u) :: mput k v l
def mdel (k : Int) : List (Int × Value) → List (Int × Value)
  | [] => []
  | (q, u) :: l => if q = k then l else (q, u) :: mdel k l
def inI64 (x : Int) : Prop := -9223372036854775808 ≤ x ∧ x ≤ 9223372036854775807
def mpe (p : Int × Value) : Value × Value := (.int .i64 p.1, p.2)
def mkv (x : MapEntry) : Value × Value := (x.key, x.val)
/-- A block holds a map from integers, in the order in which its keys came. -/
def MapIs (w : World) (b : Nat) (m : List (Int × Value)) : Prop :=
  ∃ es clock, w.heap[b]? = some (.map es clock) ∧ Stamped es clock ∧ es.toList.map mkv = m.map mpe ∧ ∀ p ∈ m, inI64 p.1
/-- What a lookup gives. -/
def lkV (m : List (Int × Value)) (k : Int) (z : Value) (c : Bool) : Value := match mget k m with
  | some v => if c then .tuple #[v, .bool true] else v
  | none => if c then .tuple #[z, .bool false] else z

theorem find_m (k : Int) (u : Value) : ∀ (es : List MapEntry) (m : List (Int × Value)) (i : Nat), es.map mkv = m.map mpe →
    match mget k m with
    | none => Instr.findNow (.int .i64) (.int .i64 k) es i = some none ∧ (∀ x ∈ es, x.key ≠ .int .i64 k) ∧ mput k u m = m ++ [(k, u)] ∧ mdel k m = m
    | some v => ∃ j e, Instr.findNow (.int .i64) (.int .i64 k) es i = some (some (i + j, v)) ∧ es[j]? = some e ∧ e.key = .int .i64 k ∧ (es.modify j (fun e => { e with key := .int .i64 k, val := u })).map mkv = (mput k u m).map mpe ∧ (es.eraseIdx j).map mkv = (mdel k m).map mpe
  | [], [], i, _ => ⟨rfl, by simp, rfl, rfl⟩
  | [], _ :: _, i, h => by simp at h
  | _ :: _, [], i, h => by simp at h
  | e :: es, (q, v) :: m, i, h => by
    rw [List.map_cons, List.map_cons, List.cons.injEq] at h
    obtain ⟨h1, h2⟩ := h
    have hk : e.key = .int .i64 q := congrArg Prod.fst h1
    have hv : e.val = v := congrArg Prod.snd h1
    have ih := find_m k u es m (i + 1) h2
    unfold mget
    by_cases hq : q = k
    · subst hq
      rw [if_pos rfl]
      refine ⟨0, e, by simp [Instr.findNow, hk, Instr.sameNow, hv], rfl, hk, ?_, ?_⟩
      · simp [mput, h2, mkv, mpe]
      · simp [mdel, h2]
    · rw [if_neg hq]
      have hs : Instr.sameNow (.int .i64) (.int .i64 k) e.key = some false := by
        rw [hk]
        simp [Instr.sameNow]
        exact fun e => hq e.symm
      cases hm : mget k m with
      | none =>
        rw [hm] at ih
        obtain ⟨i1, i2, i3, i4⟩ := ih
        refine ⟨by simp [Instr.findNow, hs, i1], fun x hx => ?_, by simp [mput, hq, i3], by simp [mdel, hq, i4]⟩
        rcases List.mem_cons.1 hx with rfl | hx
        · rw [hk]
          intro e
          cases e
          exact hq rfl
        · exact i2 x hx
      | some v' =>
        rw [hm] at ih
        obtain ⟨j, e', i1, i2, i3, i4, i5⟩ := ih
        refine ⟨j + 1, e', by simp [Instr.findNow, hs, i1]; omega, by simpa using i2, i3, ?_, ?_⟩
        · simp [mput, hq, i4, h1]
        · simp [mdel, hq, i5, h1]
theorem mem_mput {k : Int} {u : Value} {p : Int × Value} : ∀ {m : List (Int × Value)}, p ∈ mput k u m → p = (k, u) ∨ p ∈ m
  | [], h => .inl (by simpa [mput] using h)
  | (q, v) :: m, h => by
    unfold mput at h
    split at h
    · rcases List.mem_cons.1 h with h | h
      · exact .inl h
      · exact .inr (List.mem_cons.2 (.inr h))
    · rcases List.mem_cons.1 h with h | h
      · exact .inr (by rw [h]; simp)
      · rcases mem_mput h with h | h
        · exact .inl h
        · exact .inr (List.mem_cons.2 (.inr h))
theorem mem_mdel {k : Int} {p : Int × Value} : ∀ {m : List (Int × Value)}, p ∈ mdel k m → p ∈ m
  | [], h => by cases h
  | (q, v) :: m, h => by
    unfold mdel at h
    split at h
    · exact List.mem_cons.2 (.inr h)
    · rcases List.mem_cons.1 h with h | h
      · rw [h]; simp
      · exact List.mem_cons.2 (.inr (mem_mdel h))
section
variable {P : Program} {w : World} {T kt et : TypeId} {b : Nat} {m : List (Int × Value)}
theorem MapIs.size (h : MapIs w b m) : ∃ es clock, w.heap[b]? = some (.map es clock) ∧ es.size = m.length := by
  obtain ⟨es, clock, h1, _, h3, _⟩ := h
  refine ⟨es, clock, h1, ?_⟩
  have := congrArg List.length h3
  simpa using this
theorem MapIs.run_lookup (h : MapIs w b m) (hm : P.underlying T = some (.map kt et)) (hk : P.underlying kt = some (.int .i64)) {z : Value} (hz : (zeroValue et).run P w = .ok z w) (k : Int) (c : Bool) :
    (Instr.lookup T (.map (some b)) (.int .i64 k) c).run P w = .ok (lkV m k z c) w := by
  obtain ⟨es, clock, h1, h2, h3, _⟩ := h
  have hf := find_m k z es.toList m 0 h3
  have key : IsKey (.int .i64) (.int .i64 k) := rfl
  cases hg : mget k m with
  | none =>
    rw [hg] at hf
    simp only [Instr.lookup, Sem.run_bind, run_underlying hm, run_getObj_map h1, Result.andThen, Sem.run_pure, MapKept.run_checkKey hk key, run_findKey hk hf.1, hz, lkV, hg]
  | some v =>
    rw [hg] at hf
    obtain ⟨j, e, f1, _⟩ := hf
    simp only [Instr.lookup, Sem.run_bind, run_underlying hm, run_getObj_map h1, Result.andThen, Sem.run_pure, MapKept.run_checkKey hk key, run_findKey hk f1, lkV, hg]
theorem run_lookup_nil (hm : P.underlying T = some (.map kt et)) (hk : P.underlying kt = some (.int .i64)) {z : Value} (hz : (zeroValue et).run P w = .ok z w) (k : Int) (c : Bool) :
    (Instr.lookup T (.map none) (.int .i64 k) c).run P w = .ok (lkV [] k z c) w := by
  have key : IsKey (.int .i64) (.int .i64 k) := rfl
  simp only [Instr.lookup, Sem.run_bind, run_underlying hm, Result.andThen, Sem.run_pure, MapKept.run_checkKey hk key, run_findKey (l := []) hk rfl, hz, lkV, mget]
theorem MapIs.run_update (h : MapIs w b m) (hm : P.underlying T = some (.map kt et)) (hk : P.underlying kt = some (.int .i64)) (k : Int) (u : Value) (hi : inI64 k) :
    ∃ o, (Instr.mapUpdate T (.map (some b)) (.int .i64 k) u).run P w = .ok () { w with heap := w.heap.setIfInBounds b o } ∧ MapIs { w with heap := w.heap.setIfInBounds b o } b (mput k u m) := by
  obtain ⟨es, clock, h1, h2, h3, h4⟩ := h
  have hf := find_m k u es.toList m 0 h3
  have key : IsKey (.int .i64) (.int .i64 k) := rfl
  have hb : ∀ p ∈ mput k u m, inI64 p.1 := fun p hp => (mem_mput hp).elim (fun e => by rw [e]; exact hi) (h4 p)
  cases hg : mget k m with
  | none =>
    rw [hg] at hf
    obtain ⟨f1, f2, f3, _⟩ := hf
    refine ⟨.map (es.push { key := .int .i64 k, val := u, born := clock }) (clock + 1), ?_, _, _, (heap_set h1).1, stamped_push h2 f2, ?_, hb⟩
    · simp [Instr.mapUpdate, run_underlying hm, run_getObj_map h1, MapKept.run_checkKey hk key, run_findKey hk f1, run_setObj_map _ h1, Result.andThen]
    · rw [f3]
      simp [h3, mkv, mpe]
  | some v =>
    rw [hg] at hf
    obtain ⟨j, e, f1, f2, f3, f4, _⟩ := hf
    have hj : es[j]? = some e := by simpa using f2
    have hkey : ∀ e', es[j]? = some e' → ({ e' with key := .int .i64 k, val := u } : MapEntry).key = e'.key := fun e' he' => by rw [hj] at he'; cases he'; exact f3.symm
    refine ⟨.map (es.modify j fun e => { e with key := .int .i64 k, val := u }) clock, ?_, _, _, (heap_set h1).1, stamped_modify h2 _ _ (fun _ _ => rfl) (fun e' _ he' => hkey e' he'), ?_, hb⟩
    · simp [Instr.mapUpdate, run_underlying hm, run_getObj_map h1, MapKept.run_checkKey hk key, run_findKey hk f1, hj, f3, run_keyThatStays key, run_setObj_map _ h1, Result.andThen]
    · rw [Array.toList_modify]
      exact f4
theorem MapIs.run_delete (h : MapIs w b m) (hm : P.underlying T = some (.map kt et)) (hk : P.underlying kt = some (.int .i64)) (k : Int) {ats : Array TypeId} (ha : ats[0]? = some T) (ty : TypeId) :
    ∃ o, (Builtin.delete_ ats ty #[.map (some b), .int .i64 k]).run P w = .ok (.tuple #[]) { w with heap := w.heap.setIfInBounds b o } ∧ MapIs { w with heap := w.heap.setIfInBounds b o } b (mdel k m) := by
  obtain ⟨es, clock, h1, h2, h3, h4⟩ := h
  have hf := find_m k (.pointer none) es.toList m 0 h3
  have key : IsKey (.int .i64) (.int .i64 k) := rfl
  have hb : ∀ p ∈ mdel k m, inI64 p.1 := fun p hp => h4 p (mem_mdel hp)
  cases hg : mget k m with
  | none =>
    rw [hg] at hf
    obtain ⟨f1, f2, _, f4⟩ := hf
    refine ⟨.map es clock, ?_, _, _, (heap_set h1).1, h2, by rw [f4]; exact h3, hb⟩
    simp [Builtin.delete_, ha, run_underlying hm, run_getObj_map h1, MapKept.run_checkKey hk key, run_findKey hk f1, run_setObj_map _ h1, Result.andThen]
  | some v =>
    rw [hg] at hf
    obtain ⟨j, e, f1, f2, f3, _, f5⟩ := hf
    have hjs : j < es.size := by simpa using (List.getElem?_eq_some_iff.1 f2).1
    refine ⟨.map (es.eraseIdxIfInBounds j) clock, ?_, _, _, (heap_set h1).1, stamped_erase h2 j, ?_, hb⟩
    · simp [Builtin.delete_, ha, run_underlying hm, run_getObj_map h1, MapKept.run_checkKey hk key, run_findKey hk f1, run_setObj_map _ h1, Result.andThen]
    · unfold Array.eraseIdxIfInBounds
      rw [dif_pos hjs, Array.toList_eraseIdx]
      exact f5
theorem MapIs.run_len (h : MapIs w b m) (hm : P.underlying T = some (.map kt et)) {ats : Array TypeId} (ha : ats[0]? = some T) (ty : TypeId) : (Builtin.len_ ats ty #[.map (some b)]).run P w = .ok (.int .i64 m.length) w := by
  obtain ⟨es, clock, h1, h2⟩ := h.size
  simp [Builtin.len_, ha, run_underlying hm, run_getObj_map h1, goInt, h2, Result.andThen]
theorem MapIs.stays {w' : World} (h : MapIs w b m) (hb : w'.heap[b]? = w.heap[b]?) : MapIs w' b m := by
  obtain ⟨es, clock, h1, h2⟩ := h
  exact ⟨es, clock, hb.trans h1, h2⟩
end
end Vc
namespace Vc
open Go Go.RowKit

/-- The value of one cell: integers, truth values, texts; pointers and slices into blocks that have names. -/
inductive CV where
  | i (k : IntKind) (x : Int)
  | b (x : Bool)
  | s (x : ByteArray)
  | p (n off : Nat)
  | np
  | sl (n off len cap : Nat)
  | nsl
  | nm (n : Nat)
  | el (n j : Nat)
  | sub (n off k len : Nat)
  | mp (n : Nat)
  | nmp
  | fn (f : Fn) (caps : List (Nat × Nat))
  | raw (v : Value)
inductive TV where
  | c (x : CV)
  | agg (cs : List CV)
inductive SV where
  | t (x : TV)
  | tup (vs : List TV)
  | gd (cs : List (Nat × Bool × Bool)) (x : TV)

/-- What the names stand for: a block's number, a value, the blocks that belong to it. -/
structure Env where
  blk : Nat → Nat
  val : Nat → Value
  fp : Nat → Nat → Prop
  one : ∀ n, (val n).oneCell' = true
abbrev uv : Value := .pointer none

/-- What is known of a name. -/
inductive Ob where
  | cells (cs : List CV) (t : TypeId)
  | row (xs : List Value) (t : TypeId)
  | rd (size len : Nat) (xs : List Value)
  | own (t : TypeId) (size len : Nat) (xs : List Value)
  | ab (φ : Value → (Nat → Prop) → World → Prop)
  | mp (m : List (Int × Value))
  | pin (m x : Nat)

def CV.den (e : Env) : CV → Value
  | .i k x => .int k x
  | .b x => .bool x
  | .s x => .string x
  | .p n off => .pointer (some ⟨e.blk n, off, none⟩)
  | .np => .pointer none
  | .sl n off len cap => .slice (some ⟨e.blk n, off, none⟩) len cap
  | .nsl => .slice none 0 0
  | .nm n => e.val n
  | .el n j => match e.val n with
    | .slice (some a) _ _ => .pointer (some (a.add j))
    | _ => uv
  | .sub n off k len => match e.val n with
    | .slice A _ c => .slice (if c = k then A else A.map (·.add off)) len (c - k)
    | _ => uv
  | .mp n => .map (some (e.blk n))
  | .nmp => .map none
  | .fn f caps => .func f #[] (caps.map fun (n, o) => Value.pointer (some ⟨e.blk n, o, none⟩)).toArray
  | .raw v => v
def CV.ns : CV → List Nat
  | .p n _ | .sl n _ _ _ | .nm n | .el n _ | .mp n | .sub n _ _ _ => [n]
  | .fn _ caps => caps.map (·.1)
  | _ => []
def TV.den (e : Env) : TV → Value
  | .c x => x.den e
  | .agg cs => .agg (cs.map (CV.den e)).toArray
def flatN : List (List Nat) → List Nat
  | [] => []
  | l :: ls => l ++ flatN ls
def TV.ns : TV → List Nat
  | .c x => x.ns
  | .agg cs => flatN (cs.map CV.ns)
/-- Whether tests came out as wanted: a temporary, what is wanted, what came out. -/
def condB : List (Nat × Bool × Bool) → Bool
  | [] => true
  | (_, p, c) :: l => (c == p) && condB l
def SV.den (e : Env) : SV → Value
  | .t x => x.den e
  | .tup vs => .tuple (vs.map (TV.den e)).toArray
  | .gd cs x => if condB cs = true then x.den e else undef
def SV.ns : SV → List Nat
  | .t x => x.ns
  | .tup vs => flatN (vs.map TV.ns)
  | .gd _ x => x.ns
def Ob.ns : Ob → List Nat
  | .cells cs _ => flatN (cs.map CV.ns)
  | .pin m _ => [m]
  | _ => []

/-- A slice value with n elements of so many cells each, that holds these cells. -/
def Rds (w : World) (A : Option Addr) (n c size : Nat) (xs : List Value) : Prop :=
  xs.length = n * size ∧ n ≤ c ∧ c ≤ maxLen ∧ (A = none → c = 0) ∧ ∀ j u, xs[j]? = some u → ∃ a, A = some a ∧ w.cell? (a.add j) = some u
def stable (φ : Value → (Nat → Prop) → World → Prop) : Prop := ∀ v F w w', φ v F w → (∀ g, F g → w'.heap[g]? = w.heap[g]?) → φ v F w'
def Ob.holds (e : Env) (n : Nat) (w : World) : Ob → Prop
  | .cells cs t => (∀ g, e.fp n g ↔ g = e.blk n) ∧ w.heap[e.blk n]? = some (.cells (cs.map (CV.den e)).toArray t (0, 0))
  | .row xs t => (∀ g, e.fp n g ↔ g = e.blk n) ∧ w.heap[e.blk n]? = some (.cells xs.toArray t (0, 0))
  | .rd size len xs => ∃ A c, e.val n = .slice A len c ∧ Rds w A len c size xs ∧ ∀ a, A = some a → 0 < xs.length → e.fp n a.block
  | .own t size len xs => w.ownsRow 0 t size (e.val n) len xs ∧ ∀ g, e.fp n g ↔ (e.val n).ownBlock = some g
  | .ab φ => φ (e.val n) (e.fp n) w ∧ stable φ
  | .mp m => (∀ g, e.fp n g ↔ g = e.blk n) ∧ MapIs w (e.blk n) m
  | .pin m x => (∀ g, ¬ e.fp n g) ∧ e.blk m = x

structure Eff where
  v : SV
  news : List (Bool × Ob)
  upd : List (Nat × Option Ob)
  obs : List Prop

theorem lit_add (n o i : Nat) : (⟨n, o, none⟩ : Addr).add i = ⟨n, o + i, none⟩ := by unfold Addr.add; split <;> simp_all
theorem addr_blk (a : Addr) (n : Nat) : (a.add n).block = a.block := by
  rw [Addr.add]
  split <;> rfl
theorem mem_flatN {n : Nat} : ∀ {ls : List (List Nat)}, n ∈ flatN ls ↔ ∃ l ∈ ls, n ∈ l
  | [] => by simp [flatN]
  | l :: ls => by
    have := mem_flatN (n := n) (ls := ls)
    simp [flatN, this]

/-- Two readings of the names that are the same at a name. -/
def Env.same (e e' : Env) (n : Nat) : Prop := e'.blk n = e.blk n ∧ e'.val n = e.val n ∧ e'.fp n = e.fp n
/-- Two readings of the names that tell the same values of a name. -/
def Env.samev (e e' : Env) (n : Nat) : Prop := e'.blk n = e.blk n ∧ e'.val n = e.val n
theorem Env.same.v {e e' : Env} {n : Nat} (h : e.same e' n) : e.samev e' n := ⟨h.1, h.2.1⟩
theorem CV.den_samev {e e' : Env} : ∀ {v : CV}, (∀ n ∈ v.ns, e.samev e' n) → v.den e' = v.den e
  | .i .., _ | .b .., _ | .s .., _ | .np, _ | .nsl, _ | .nmp, _ | .raw .., _ => rfl
  | .p n o, h => by simp [CV.den, (h n (by simp [CV.ns])).1]
  | .sl n .., h => by simp [CV.den, (h n (by simp [CV.ns])).1]
  | .nm n, h => by simp [CV.den, (h n (by simp [CV.ns])).2]
  | .el n _, h => by simp [CV.den, (h n (by simp [CV.ns])).2]
  | .sub n _ _ _, h => by simp [CV.den, (h n (by simp [CV.ns])).2]
  | .mp n, h => by simp [CV.den, (h n (by simp [CV.ns])).1]
  | .fn f caps, h => by
    have : caps.map (fun (x : Nat × Nat) => Value.pointer (some ⟨e'.blk x.1, x.2, none⟩)) = caps.map (fun (x : Nat × Nat) => Value.pointer (some ⟨e.blk x.1, x.2, none⟩)) :=
      List.map_congr_left fun x hx => by rw [(h x.1 (by simpa [CV.ns] using ⟨x.2, hx⟩)).1]
    simp only [CV.den, this]
theorem cells_samev {e e' : Env} {cs : List CV} (h : ∀ n ∈ flatN (cs.map CV.ns), e.samev e' n) : cs.map (CV.den e') = cs.map (CV.den e) :=
  List.map_congr_left fun c hc => CV.den_samev fun n hn => h n (mem_flatN.2 ⟨_, List.mem_map.2 ⟨c, hc, rfl⟩, hn⟩)
theorem TV.den_samev {e e' : Env} : ∀ {v : TV}, (∀ n ∈ v.ns, e.samev e' n) → v.den e' = v.den e
  | .c _, h => CV.den_samev h
  | .agg cs, h => by simp only [TV.den, cells_samev h]
theorem SV.den_samev {e e' : Env} : ∀ {v : SV}, (∀ n ∈ v.ns, e.samev e' n) → v.den e' = v.den e
  | .t _, h => TV.den_samev h
  | .tup vs, h => by
    have : vs.map (TV.den e') = vs.map (TV.den e) := List.map_congr_left fun c hc => TV.den_samev fun n hn => h n (mem_flatN.2 ⟨_, List.mem_map.2 ⟨c, hc, rfl⟩, hn⟩)
    simp only [SV.den, this]
  | .gd _ x, h => by simp only [SV.den, TV.den_samev (v := x) h]
theorem CV.den_same {e e' : Env} {v : CV} (h : ∀ n ∈ v.ns, e.same e' n) : v.den e' = v.den e := CV.den_samev fun n hn => (h n hn).v
theorem cells_same {e e' : Env} {cs : List CV} (h : ∀ n ∈ flatN (cs.map CV.ns), e.same e' n) : cs.map (CV.den e') = cs.map (CV.den e) := cells_samev fun n hn => (h n hn).v
theorem TV.den_same {e e' : Env} {v : TV} (h : ∀ n ∈ v.ns, e.same e' n) : v.den e' = v.den e := TV.den_samev fun n hn => (h n hn).v
theorem SV.den_same {e e' : Env} {v : SV} (h : ∀ n ∈ v.ns, e.same e' n) : v.den e' = v.den e := SV.den_samev fun n hn => (h n hn).v

theorem ownsRow_stays {w w' : World} {B : Nat} {t : TypeId} {size n : Nat} {v : Value} {xs : List Value} (h : w.ownsRow B t size v n xs) (hk : ∀ g, v.ownBlock = some g → w'.heap[g]? = w.heap[g]?) : w'.ownsRow B t size v n xs := by
  refine ⟨h.1, ?_⟩
  rcases h.2 with h2 | ⟨g, cap, cur, h3, h4, h5, h6⟩
  · exact .inl h2
  · exact .inr ⟨g, cap, cur, h3, h4, (hk g (by rw [h3]; rfl)).trans h5, h6⟩
theorem Rds.stays {w w' : World} {A : Option Addr} {n c size : Nat} {xs : List Value} (h : Rds w A n c size xs) (hk : ∀ a, A = some a → 0 < xs.length → w'.heap[a.block]? = w.heap[a.block]?) : Rds w' A n c size xs := by
  obtain ⟨h1, h2, h3, h4, h5⟩ := h
  refine ⟨h1, h2, h3, h4, fun j u hu => ?_⟩
  obtain ⟨a, e, hc⟩ := h5 j u hu
  refine ⟨a, e, ?_⟩
  rw [← hc]
  exact World.cell?_of_block (by rw [addr_blk]; exact hk a e (List.length_pos_iff.2 fun h => by rw [h] at hu; simp at hu))
theorem Ob.stays {e : Env} {n : Nat} {w w' : World} : ∀ {o : Ob}, o.holds e n w → (∀ g, e.fp n g → w'.heap[g]? = w.heap[g]?) → o.holds e n w'
  | .cells .., ⟨h1, h2⟩, hk => ⟨h1, (hk _ ((h1 _).2 rfl)).trans h2⟩
  | .row .., ⟨h1, h2⟩, hk => ⟨h1, (hk _ ((h1 _).2 rfl)).trans h2⟩
  | .rd .., ⟨A, c, h1, h2, h3⟩, hk => ⟨A, c, h1, h2.stays fun a ha h0 => hk _ (h3 a ha h0), h3⟩
  | .own .., ⟨h1, h2⟩, hk => ⟨ownsRow_stays h1 fun g hg => hk g ((h2 g).2 hg), h2⟩
  | .ab _, ⟨h1, h2⟩, hk => ⟨h2 _ _ _ _ h1 hk, h2⟩
  | .mp _, ⟨h1, h2⟩, hk => ⟨h1, h2.stays (hk _ ((h1 _).2 rfl))⟩
  | .pin _ _, h, _ => h
theorem Ob.same {e e' : Env} {n : Nat} {w : World} (hn : e.same e' n) : ∀ {o : Ob}, o.holds e n w → (∀ m ∈ o.ns, e.samev e' m) → o.holds e' n w
  | .cells .., ⟨h1, h2⟩, hm => ⟨by rw [hn.2.2, hn.1]; exact h1, by rw [hn.1, cells_samev hm]; exact h2⟩
  | .row .., ⟨h1, h2⟩, _ => ⟨by rw [hn.2.2, hn.1]; exact h1, by rw [hn.1]; exact h2⟩
  | .rd .., ⟨A, c, h1, h2, h3⟩, _ => ⟨A, c, hn.2.1.trans h1, h2, by rw [hn.2.2]; exact h3⟩
  | .own .., ⟨h1, h2⟩, _ => ⟨by rw [hn.2.1]; exact h1, by rw [hn.2.1, hn.2.2]; exact h2⟩
  | .ab _, ⟨h1, h2⟩, _ => ⟨by rw [hn.2.1, hn.2.2]; exact h1, h2⟩
  | .mp _, ⟨h1, h2⟩, _ => ⟨by rw [hn.2.2, hn.1]; exact h1, by rw [hn.1]; exact h2⟩
  | .pin m _, ⟨h1, h2⟩, hm => ⟨by rw [hn.2.2]; exact h1, (hm m (by simp [Ob.ns])).1.trans h2⟩

/-- The world when the walk began, the old blocks that may be written, the number of temporaries. -/
structure Frm where
  w0 : World
  W : Nat → Prop
  N : Nat
structure Keeps (F : Frm) (w : World) : Prop where
  os : w.os = F.w0.os
  tape : w.tape = F.w0.tape
  out : w.output = F.w0.output
  size : F.w0.heap.size ≤ w.heap.size
  block : ∀ g, g < F.w0.heap.size → ¬ F.W g → w.heap[g]? = F.w0.heap[g]?

def slot (a : Act) (t : Tmp) : Value := a.tmps.getD t undef
theorem slot_get (a : Act) (t : Tmp) : slot a t = (a.tmps[t]?).getD undef := by simp [slot, Array.getD_eq_getD_getElem?]
theorem slot_put_same {a : Act} {d : Tmp} {v : Value} (h : d < a.tmps.size) : slot (a.put (some d) v) d = v := by
  simp [slot_get, Act.put, h]
theorem slot_put_ne {a : Act} {d t : Tmp} {v : Value} (h : d ≠ t) : slot (a.put (some d) v) t = slot a t := by
  simp only [slot_get, Act.put, Array.getElem?_setIfInBounds, if_neg h]

abbrev LF := Nat → Option SV
abbrev HF := Nat → Option (Bool × Ob)
/-- What is known stands in the temporaries and in the memory. -/
structure Sat (F : Frm) (L : LF) (H : HF) (e : Env) (a : Act) (w : World) : Prop where
  fr : Keeps F w
  sz : a.tmps.size = F.N
  df : a.defers = []
  sl : ∀ t v, L t = some v → slot a t = v.den e
  ob : ∀ n b o, H n = some (b, o) → o.holds e n w ∧ ∀ g, e.fp n g → g < w.heap.size ∧ (b = true → F.w0.heap.size ≤ g ∨ F.W g)
  dj : ∀ n o m c q, H n = some (true, o) → H m = some (c, q) → n ≠ m → ∀ g, e.fp n g → ¬ e.fp m g
theorem Sat.weak {F : Frm} {L L' : LF} {H H' : HF} {e : Env} {a : Act} {w : World} (S : Sat F L H e a w) (hL : ∀ t v, L' t = some v → L t = some v) (hH : ∀ n x, H' n = some x → H n = some x) : Sat F L' H' e a w :=
  ⟨S.fr, S.sz, S.df, fun t v h => S.sl t v (hL t v h), fun n b o h => S.ob n b o (hH n _ h), fun n o m c q h h' => S.dj n o m c q (hH n _ h) (hH m _ h')⟩

/-- What a step does to the memory, told by names: new ones from nx on; those that are told anew, or told no more. -/
structure Mv0 (nx : Nat) (E : Eff) (e e' : Env) (w w' : World) : Prop where
  agree : ∀ n, (n < nx ∨ nx + E.news.length ≤ n) → e.same e' n
  os : w'.os = w.os
  tape : w'.tape = w.tape
  out : w'.output = w.output
  size : w.heap.size ≤ w'.heap.size
  block : ∀ g, g < w.heap.size → (∀ n o, (n, o) ∈ E.upd → ¬ e.fp n g) → w'.heap[g]? = w.heap[g]?
  news : ∀ k b o, E.news[k]? = some (b, o) → o.holds e' (nx + k) w' ∧ ∀ g, e'.fp (nx + k) g → g < w'.heap.size ∧ (w.heap.size ≤ g ∨ ∃ n, (n, none) ∈ E.upd ∧ e.fp n g)
  ndj : ∀ j k, j < E.news.length → k < E.news.length → j ≠ k → ∀ g, e'.fp (nx + j) g → ¬ e'.fp (nx + k) g
  upd : ∀ n o, (n, some o) ∈ E.upd → o.holds e' n w'

def outN (nx len n : Nat) : Prop := n < nx ∨ nx + len ≤ n
/-- The blocks behind a step. -/
def nextH (nx : Nat) (E : Eff) (H : HF) (n : Nat) : Option (Bool × Ob) :=
  if nx ≤ n ∧ n < nx + E.news.length then E.news[n - nx]?
  else match E.upd.find? (fun x => x.1 == n) with
    | some (_, some o) => some (true, o)
    | some (_, none) => none
    | none => H n
def nextL (d : Option Tmp) (v : SV) (L : LF) (t : Nat) : Option SV := if d = some t then some v else L t

theorem sat_step0 {F : Frm} {L : LF} {H : HF} {e e' : Env} {a : Act} {w w' : World} {nx : Nat} {E : Eff} {d : Option Tmp} (S : Sat F L H e a w) (M : Mv0 nx E e e' w w')
    (hL : ∀ t v, L t = some v → ∀ n ∈ v.ns, outN nx E.news.length n)
    (hH : ∀ n x, H n = some x → outN nx E.news.length n ∧ ∀ m ∈ x.2.ns, outN nx E.news.length m)
    (hU : ∀ n o, (n, o) ∈ E.upd → ∃ o0, H n = some (true, o0)) (hnd : ∀ n o o', (n, o) ∈ E.upd → (n, o') ∈ E.upd → o = o') (hd : ∀ t, d = some t → t < F.N) :
    Sat F (nextL d E.v L) (nextH nx E H) e' (a.put d (E.v.den e')) w' := by
  have hsame : ∀ n, outN nx E.news.length n → e.same e' n := fun n h => M.agree n h
  -- a name that is neither new nor told anew
  have hold : ∀ n x, nextH nx E H n = some x → (∃ k, n = nx + k ∧ k < E.news.length ∧ E.news[k]? = some x) ∨ ((∃ o, x = (true, o) ∧ (n, some o) ∈ E.upd) ∧ outN nx E.news.length n) ∨ (H n = some x ∧ (∀ o, (n, o) ∉ E.upd)) := by
    intro n x h
    unfold nextH at h
    split at h
    · rename_i hn
      exact .inl ⟨n - nx, by omega, by omega, h⟩
    · rename_i hn
      have hout : outN nx E.news.length n := by unfold outN; omega
      split at h
      · rename_i q o hf
        have h1 := List.find?_some hf
        have h2 := List.mem_of_find?_eq_some hf
        simp at h1 h
        subst h1 h
        exact .inr (.inl ⟨⟨o, rfl, h2⟩, hout⟩)
      · cases h
      · rename_i hf
        refine .inr (.inr ⟨h, fun o ho => ?_⟩)
        have := List.find?_eq_none.1 hf _ ho
        simp at this
  have hfpU : ∀ n o, (n, o) ∈ E.upd → ∀ g, e.fp n g → g < w.heap.size ∧ (F.w0.heap.size ≤ g ∨ F.W g) := by
    intro n o ho g hg
    obtain ⟨o0, h0⟩ := hU n o ho
    have := (S.ob n true o0 h0).2 g hg
    exact ⟨this.1, this.2 rfl⟩
  -- what is told of an old name that is not told anew stands
  have hkept : ∀ n x, H n = some x → (∀ o, (n, o) ∉ E.upd) → ∀ g, e.fp n g → w'.heap[g]? = w.heap[g]? := by
    intro n x hn hno g hg
    refine M.block g ((S.ob n x.1 x.2 hn).2 g hg).1 fun m o hm hgm => ?_
    obtain ⟨o0, h0⟩ := hU m o hm
    have hne : m ≠ n := fun e => hno o (e ▸ hm)
    exact S.dj m o0 n x.1 x.2 h0 hn hne g hgm hg
  constructor
  · refine ⟨M.os.trans S.fr.os, M.tape.trans S.fr.tape, M.out.trans S.fr.out, Nat.le_trans S.fr.size M.size, fun g hg hW => ?_⟩
    rw [M.block g (Nat.lt_of_lt_of_le hg S.fr.size) fun n o ho hfp => ?_]
    · exact S.fr.block g hg hW
    · rcases (hfpU n o ho g hfp).2 with h | h
      · omega
      · exact hW h
  · cases d with
    | none => exact S.sz
    | some d => simpa [Act.put] using S.sz
  · cases d with
    | none => exact S.df
    | some d => exact S.df
  · intro t v h
    unfold nextL at h
    split at h
    · rename_i hdt
      subst hdt
      cases h
      exact slot_put_same (by rw [S.sz]; exact hd t rfl)
    · rename_i hdt
      have : slot (a.put d (E.v.den e')) t = slot a t := by
        cases d with
        | none => rfl
        | some d => exact slot_put_ne fun e => hdt (by rw [e])
      rw [this, S.sl t v h]
      exact (SV.den_same fun n hn => hsame n (hL t v h n hn)).symm
  · intro n b o h
    rcases hold n _ h with ⟨k, rfl, hk, hx⟩ | ⟨⟨o', hx, hu⟩, hout⟩ | ⟨hn, hno⟩
    · obtain ⟨h1, h2⟩ := M.news k b o hx
      refine ⟨h1, fun g hg => ⟨(h2 g hg).1, fun _ => ?_⟩⟩
      rcases (h2 g hg).2 with h3 | ⟨m, hm, hg'⟩
      · exact .inl (Nat.le_trans S.fr.size h3)
      · exact (hfpU m none hm g hg').2
    · cases hx
      refine ⟨M.upd n o hu, fun g hg => ?_⟩
      rw [(hsame n hout).2.2] at hg
      obtain ⟨h1, h2⟩ := hfpU n _ hu g hg
      exact ⟨Nat.lt_of_lt_of_le h1 M.size, fun _ => h2⟩
    · obtain ⟨h1, h2⟩ := hH n _ hn
      obtain ⟨h3, h4⟩ := S.ob n b o hn
      have hs := hsame n h1
      refine ⟨Ob.same hs (Ob.stays h3 (hkept n _ hn hno)) fun m hm => (hsame m (h2 m hm)).v, fun g hg => ?_⟩
      rw [hs.2.2] at hg
      exact ⟨Nat.lt_of_lt_of_le (h4 g hg).1 M.size, (h4 g hg).2⟩
  · -- old or new, what may be written lies apart
    have old : ∀ n x, ((∃ o, x = (true, o) ∧ (n, some o) ∈ E.upd) ∧ outN nx E.news.length n) ∨ (H n = some x ∧ (∀ o, (n, o) ∉ E.upd)) → outN nx E.news.length n ∧ (∃ o, H n = some (x.1, o)) := by
      rintro n x (⟨⟨o, rfl, hu⟩, hout⟩ | ⟨hn, _⟩)
      · obtain ⟨o0, h0⟩ := hU n _ hu
        exact ⟨hout, o0, h0⟩
      · exact ⟨(hH n _ hn).1, x.2, hn⟩
    have newold : ∀ k b o, E.news[k]? = some (b, o) → ∀ n x, (((∃ o, x = (true, o) ∧ (n, some o) ∈ E.upd) ∧ outN nx E.news.length n) ∨ (H n = some x ∧ (∀ o, (n, o) ∉ E.upd))) → (∀ m, (m, none) ∈ E.upd → m ≠ n) → ∀ g, e'.fp (nx + k) g → ¬ e'.fp n g := by
      intro k b o hk n x hx hmn g hg hg'
      obtain ⟨hout, o0, h0⟩ := old n x hx
      rw [(hsame n hout).2.2] at hg'
      have hlt := ((S.ob n _ _ h0).2 g hg').1
      rcases ((M.news k b o hk).2 g hg).2 with h3 | ⟨m, hm, hgm⟩
      · omega
      · obtain ⟨o1, h1⟩ := hU m none hm
        exact S.dj m o1 n _ _ h1 h0 (hmn m hm) g hgm hg'
    have hmn : ∀ n x, nextH nx E H n = some x → ¬ (nx ≤ n ∧ n < nx + E.news.length) → ∀ m, (m, none) ∈ E.upd → m ≠ n := by
      rintro n x h hn m hm rfl
      unfold nextH at h
      rw [if_neg hn] at h
      split at h
      · rename_i q o hf
        have h1 := List.find?_some hf
        have h2 := List.mem_of_find?_eq_some hf
        simp at h1
        subst h1
        have := hnd _ _ _ hm h2
        cases this
      · cases h
      · rename_i hf
        have := List.find?_eq_none.1 hf _ hm
        simp at this
    intro n o m c q hn hm hne g hg hg'
    have cn := hold n _ hn
    have cm := hold m _ hm
    by_cases hnn : nx ≤ n ∧ n < nx + E.news.length
    · rcases cn with ⟨k, rfl, hk, hx⟩ | h | h
      · by_cases hmm : nx ≤ m ∧ m < nx + E.news.length
        · obtain ⟨k', rfl⟩ : ∃ k', m = nx + k' := ⟨m - nx, by omega⟩
          exact M.ndj k k' (by omega) (by omega) (by omega) g hg hg'
        · rcases cm with ⟨k', rfl, hk', _⟩ | h' | h'
          · omega
          · exact newold k _ _ hx m _ (.inl h') (hmn m _ hm hmm) g hg hg'
          · exact newold k _ _ hx m _ (.inr h') (hmn m _ hm hmm) g hg hg'
      · have := h.2; unfold outN at this; omega
      · have := (hH n _ h.1).1; unfold outN at this; omega
    · have cn' : ((∃ o', (true, o) = (true, o') ∧ (n, some o') ∈ E.upd) ∧ outN nx E.news.length n) ∨ (H n = some (true, o) ∧ (∀ o, (n, o) ∉ E.upd)) := by
        rcases cn with ⟨k, rfl, hk, hx⟩ | h | h
        · omega
        · exact .inl h
        · exact .inr h
      by_cases hmm : nx ≤ m ∧ m < nx + E.news.length
      · rcases cm with ⟨k', rfl, hk', hx⟩ | h' | h'
        · exact newold k' _ _ hx n _ cn' (hmn n _ hn hnn) g hg' hg
        · have := h'.2; unfold outN at this; omega
        · have := (hH m _ h'.1).1; unfold outN at this; omega
      · have cm' : ((∃ o', (c, q) = (true, o') ∧ (m, some o') ∈ E.upd) ∧ outN nx E.news.length m) ∨ (H m = some (c, q) ∧ (∀ o, (m, o) ∉ E.upd)) := by
          rcases cm with ⟨k, rfl, hk, hx⟩ | h | h
          · omega
          · exact .inl h
          · exact .inr h
        obtain ⟨h1, o1, h2⟩ := old n _ cn'
        obtain ⟨h3, o2, h4⟩ := old m _ cm'
        rw [(hsame n h1).2.2] at hg
        rw [(hsame m h3).2.2] at hg'
        exact S.dj n o1 m _ o2 h2 h4 hne g hg hg'
/-- The same, where what is told anew may stand elsewhere: in new blocks, or in those of what is told anew, or no more. -/
structure Mv1 (nx : Nat) (E : Eff) (e e' : Env) (w w' : World) : Prop where
  agree : ∀ n, (n < nx ∨ nx + E.news.length ≤ n) → e.samev e' n ∧ ((∀ o, (n, o) ∉ E.upd) → e'.fp n = e.fp n)
  os : w'.os = w.os
  tape : w'.tape = w.tape
  out : w'.output = w.output
  size : w.heap.size ≤ w'.heap.size
  block : ∀ g, g < w.heap.size → (∀ n o, (n, o) ∈ E.upd → ¬ e.fp n g) → w'.heap[g]? = w.heap[g]?
  news : ∀ k b o, E.news[k]? = some (b, o) → o.holds e' (nx + k) w' ∧ ∀ g, e'.fp (nx + k) g → g < w'.heap.size ∧ (w.heap.size ≤ g ∨ ∃ n o, (n, o) ∈ E.upd ∧ e.fp n g)
  upd : ∀ n o, (n, some o) ∈ E.upd → o.holds e' n w' ∧ ∀ g, e'.fp n g → g < w'.heap.size ∧ (w.heap.size ≤ g ∨ ∃ n o, (n, o) ∈ E.upd ∧ e.fp n g)
  ndj : ∀ j k, j < E.news.length → k < E.news.length → j ≠ k → ∀ g, e'.fp (nx + j) g → ¬ e'.fp (nx + k) g
  udj : ∀ n o m q, (n, some o) ∈ E.upd → (m, some q) ∈ E.upd → n ≠ m → ∀ g, e'.fp n g → ¬ e'.fp m g
  nudj : ∀ n o k, (n, some o) ∈ E.upd → k < E.news.length → ∀ g, e'.fp n g → ¬ e'.fp (nx + k) g
inductive Mv (nx : Nat) (E : Eff) (e e' : Env) (w w' : World) : Prop where
  | old (M : Mv0 nx E e e' w w')
  | anew (M : Mv1 nx E e e' w w')
theorem Mv.os {nx : Nat} {E : Eff} {e e' : Env} {w w' : World} (M : Mv nx E e e' w w') : w'.os = w.os := by cases M with | old M => exact M.os | anew M => exact M.os
theorem Mv.tape {nx : Nat} {E : Eff} {e e' : Env} {w w' : World} (M : Mv nx E e e' w w') : w'.tape = w.tape := by cases M with | old M => exact M.tape | anew M => exact M.tape
theorem Mv.out {nx : Nat} {E : Eff} {e e' : Env} {w w' : World} (M : Mv nx E e e' w w') : w'.output = w.output := by cases M with | old M => exact M.out | anew M => exact M.out
theorem Mv.size {nx : Nat} {E : Eff} {e e' : Env} {w w' : World} (M : Mv nx E e e' w w') : w.heap.size ≤ w'.heap.size := by cases M with | old M => exact M.size | anew M => exact M.size
theorem Mv.block {nx : Nat} {E : Eff} {e e' : Env} {w w' : World} (M : Mv nx E e e' w w') : ∀ g, g < w.heap.size → (∀ n o, (n, o) ∈ E.upd → ¬ e.fp n g) → w'.heap[g]? = w.heap[g]? := by cases M with | old M => exact M.block | anew M => exact M.block
/-- What is asked, and what comes out, does not matter. -/
theorem Mv.as {nx : Nat} {v v' : SV} {news : List (Bool × Ob)} {upd : List (Nat × Option Ob)} {obs obs' : List Prop} {e e' : Env} {w w' : World} (M : Mv nx ⟨v, news, upd, obs⟩ e e' w w') : Mv nx ⟨v', news, upd, obs'⟩ e e' w w' := by
  cases M with
  | old M => exact .old ⟨M.agree, M.os, M.tape, M.out, M.size, M.block, M.news, M.ndj, M.upd⟩
  | anew M => exact .anew ⟨M.agree, M.os, M.tape, M.out, M.size, M.block, M.news, M.upd, M.ndj, M.udj, M.nudj⟩
theorem sat_step1 {F : Frm} {L : LF} {H : HF} {e e' : Env} {a : Act} {w w' : World} {nx : Nat} {E : Eff} {d : Option Tmp} (S : Sat F L H e a w) (M : Mv1 nx E e e' w w')
    (hL : ∀ t v, L t = some v → ∀ n ∈ v.ns, outN nx E.news.length n)
    (hH : ∀ n x, H n = some x → outN nx E.news.length n ∧ ∀ m ∈ x.2.ns, outN nx E.news.length m)
    (hU : ∀ n o, (n, o) ∈ E.upd → ∃ o0, H n = some (true, o0)) (hd : ∀ t, d = some t → t < F.N) :
    Sat F (nextL d E.v L) (nextH nx E H) e' (a.put d (E.v.den e')) w' := by
  have hold : ∀ n x, nextH nx E H n = some x → (∃ k, n = nx + k ∧ k < E.news.length ∧ E.news[k]? = some x) ∨ ((∃ o, x = (true, o) ∧ (n, some o) ∈ E.upd) ∧ outN nx E.news.length n) ∨ (H n = some x ∧ (∀ o, (n, o) ∉ E.upd)) := by
    intro n x h
    unfold nextH at h
    split at h
    · rename_i hn
      exact .inl ⟨n - nx, by omega, by omega, h⟩
    · rename_i hn
      have hout : outN nx E.news.length n := by unfold outN; omega
      split at h
      · rename_i q o hf
        have h1 := List.find?_some hf
        have h2 := List.mem_of_find?_eq_some hf
        simp at h1 h
        subst h1 h
        exact .inr (.inl ⟨⟨o, rfl, h2⟩, hout⟩)
      · cases h
      · rename_i hf
        refine .inr (.inr ⟨h, fun o ho => ?_⟩)
        have := List.find?_eq_none.1 hf _ ho
        simp at this
  have hfpU : ∀ n o, (n, o) ∈ E.upd → ∀ g, e.fp n g → g < w.heap.size ∧ (F.w0.heap.size ≤ g ∨ F.W g) := by
    intro n o ho g hg
    obtain ⟨o0, h0⟩ := hU n o ho
    have := (S.ob n true o0 h0).2 g hg
    exact ⟨this.1, this.2 rfl⟩
  have hkept : ∀ n x, H n = some x → (∀ o, (n, o) ∉ E.upd) → ∀ g, e.fp n g → w'.heap[g]? = w.heap[g]? := by
    intro n x hn hno g hg
    refine M.block g ((S.ob n x.1 x.2 hn).2 g hg).1 fun m o hm hgm => ?_
    obtain ⟨o0, h0⟩ := hU m o hm
    exact S.dj m o0 n x.1 x.2 h0 hn (fun e => hno o (e ▸ hm)) g hgm hg
  have hw : ∀ g, (w.heap.size ≤ g ∨ ∃ n o, (n, o) ∈ E.upd ∧ e.fp n g) → F.w0.heap.size ≤ g ∨ F.W g := by
    rintro g (h | ⟨n, o, ho, hg⟩)
    · exact .inl (Nat.le_trans S.fr.size h)
    · exact (hfpU n o ho g hg).2
  -- what is kept lies apart from what is new or told anew
  have hapart : ∀ m x, H m = some x → (∀ o, (m, o) ∉ E.upd) → ∀ g, e.fp m g → (w.heap.size ≤ g ∨ ∃ n o, (n, o) ∈ E.upd ∧ e.fp n g) → False := by
    rintro m x hm hno g hg (h | ⟨n, o, ho, hgn⟩)
    · have := ((S.ob m x.1 x.2 hm).2 g hg).1
      omega
    · obtain ⟨o0, h0⟩ := hU n o ho
      exact S.dj n o0 m x.1 x.2 h0 hm (fun e => hno o (e ▸ ho)) g hgn hg
  constructor
  · refine ⟨M.os.trans S.fr.os, M.tape.trans S.fr.tape, M.out.trans S.fr.out, Nat.le_trans S.fr.size M.size, fun g hg hW => ?_⟩
    rw [M.block g (Nat.lt_of_lt_of_le hg S.fr.size) fun n o ho hfp => ?_]
    · exact S.fr.block g hg hW
    · rcases (hfpU n o ho g hfp).2 with h | h
      · omega
      · exact hW h
  · cases d with
    | none => exact S.sz
    | some d => simpa [Act.put] using S.sz
  · cases d with
    | none => exact S.df
    | some d => exact S.df
  · intro t v h
    unfold nextL at h
    split at h
    · rename_i hdt
      subst hdt
      cases h
      exact slot_put_same (by rw [S.sz]; exact hd t rfl)
    · rename_i hdt
      have : slot (a.put d (E.v.den e')) t = slot a t := by
        cases d with
        | none => rfl
        | some d => exact slot_put_ne fun e => hdt (by rw [e])
      rw [this, S.sl t v h]
      exact (SV.den_samev fun n hn => (M.agree n (hL t v h n hn)).1).symm
  · intro n b o h
    rcases hold n _ h with ⟨k, rfl, hk, hx⟩ | ⟨⟨o', hx, hu⟩, hout⟩ | ⟨hn, hno⟩
    · obtain ⟨h1, h2⟩ := M.news k b o hx
      exact ⟨h1, fun g hg => ⟨(h2 g hg).1, fun _ => hw g (h2 g hg).2⟩⟩
    · cases hx
      obtain ⟨h1, h2⟩ := M.upd n o hu
      exact ⟨h1, fun g hg => ⟨(h2 g hg).1, fun _ => hw g (h2 g hg).2⟩⟩
    · obtain ⟨h1, h2⟩ := hH n _ hn
      obtain ⟨h3, h4⟩ := S.ob n b o hn
      obtain ⟨a1, a2⟩ := M.agree n h1
      have hs : e.same e' n := ⟨a1.1, a1.2, a2 hno⟩
      refine ⟨Ob.same hs (Ob.stays h3 (hkept n _ hn hno)) fun m hm => (M.agree m (h2 m hm)).1, fun g hg => ?_⟩
      rw [hs.2.2] at hg
      exact ⟨Nat.lt_of_lt_of_le (h4 g hg).1 M.size, (h4 g hg).2⟩
  · intro n o m c q hn hm hne g hg hg'
    have kept : ∀ k x, H k = some x → (∀ o, (k, o) ∉ E.upd) → e'.fp k = e.fp k := fun k x hk hno => (M.agree k (hH k x hk).1).2 hno
    rcases hold n _ hn with ⟨j, rfl, hj, hx⟩ | ⟨⟨o', hx, hu⟩, hout⟩ | ⟨hn', hno⟩
    · rcases hold m _ hm with ⟨k, rfl, hk, hy⟩ | ⟨⟨q', hy, hv⟩, hout'⟩ | ⟨hm', hno'⟩
      · exact M.ndj j k hj hk (by omega) g hg hg'
      · exact M.nudj m q' j hv hj g hg' hg
      · rw [kept m _ hm' hno'] at hg'
        exact hapart m _ hm' hno' g hg' ((M.news j true o hx).2 g hg).2
    · rcases hold m _ hm with ⟨k, rfl, hk, hy⟩ | ⟨⟨q', hy, hv⟩, hout'⟩ | ⟨hm', hno'⟩
      · exact M.nudj n o' k hu hk g hg hg'
      · exact M.udj n o' m q' hu hv hne g hg hg'
      · rw [kept m _ hm' hno'] at hg'
        exact hapart m _ hm' hno' g hg' ((M.upd n o' hu).2 g hg).2
    · rw [kept n _ hn' hno] at hg
      rcases hold m _ hm with ⟨k, rfl, hk, hy⟩ | ⟨⟨q', hy, hv⟩, hout'⟩ | ⟨hm', hno'⟩
      · exact hapart n _ hn' hno g hg ((M.news k c q hy).2 g hg').2
      · exact hapart n _ hn' hno g hg ((M.upd m q' hv).2 g hg').2
      · rw [kept m _ hm' hno'] at hg'
        exact S.dj n o m c q hn' hm' hne g hg hg'
theorem sat_step {F : Frm} {L : LF} {H : HF} {e e' : Env} {a : Act} {w w' : World} {nx : Nat} {E : Eff} {d : Option Tmp} (S : Sat F L H e a w) (M : Mv nx E e e' w w')
    (hL : ∀ t v, L t = some v → ∀ n ∈ v.ns, outN nx E.news.length n)
    (hH : ∀ n x, H n = some x → outN nx E.news.length n ∧ ∀ m ∈ x.2.ns, outN nx E.news.length m)
    (hU : ∀ n o, (n, o) ∈ E.upd → ∃ o0, H n = some (true, o0)) (hnd : ∀ n o o', (n, o) ∈ E.upd → (n, o') ∈ E.upd → o = o') (hd : ∀ t, d = some t → t < F.N) :
    Sat F (nextL d E.v L) (nextH nx E H) e' (a.put d (E.v.den e')) w' := by
  cases M with
  | old M => exact sat_step0 S M hL hH hU hnd hd
  | anew M => exact sat_step1 S M hL hH hU hd
end Vc
namespace Vc
open Go Go.RowKit

abbrev LL := List (Nat × SV)
abbrev HL := List (Nat × Option (Bool × Ob))
def look {α : Type} (n : Nat) : List (Nat × α) → Option α
  | [] => none
  | (m, x) :: l => if Nat.beq n m then some x else look n l
def lookH (H : HL) (n : Nat) : Option (Bool × Ob) := match look n H with
  | some (some x) => some x
  | _ => none
def nth {α : Type} : Nat → List α → Option α
  | _, [] => none
  | 0, x :: _ => some x
  | n + 1, _ :: l => nth n l
def app {α : Type} : List α → List α → List α
  | [], m => m
  | x :: l, m => x :: app l m
def allP : List Prop → Prop
  | [] => True
  | p :: l => p ∧ allP l
theorem allP_app {l m : List Prop} : allP (app l m) ↔ allP l ∧ allP m := by
  induction l with
  | nil => simp [app, allP]
  | cons p l ih => simp [app, allP, ih, and_assoc]
theorem nth_eq {α : Type} : ∀ (n : Nat) (l : List α), nth n l = l[n]?
  | _, [] => by simp [nth]
  | 0, x :: _ => by simp [nth]
  | n + 1, _ :: l => by simp [nth, nth_eq n l]
theorem app_eq {α : Type} : ∀ (l m : List α), app l m = l ++ m
  | [], m => rfl
  | x :: l, m => by simp [app, app_eq l m]

/-- What the walker says ahead: what a call gives, which way a test goes, what a cell of a row holds. -/
inductive Orc where
  | spec (E : Eff)
  | ret (v : SV)
  | dec (b : Bool)
  | ld (vs : List CV)

def fCV {R : Type} : CV → (CV → R) → R
  | .i k x, f => f (.i k x)
  | .b x, f => f (.b x)
  | .s x, f => f (.s x)
  | .p n o, f => f (.p n o)
  | .np, f => f .np
  | .sl n o l c, f => f (.sl n o l c)
  | .nsl, f => f .nsl
  | .nm n, f => f (.nm n)
  | .el n j, f => f (.el n j)
  | .sub n o k l, f => f (.sub n o k l)
  | .mp n, f => f (.mp n)
  | .nmp, f => f .nmp
  | .fn g c, f => f (.fn g c)
  | .raw v, f => f (.raw v)
def fCs {R : Type} : List CV → (List CV → R) → R
  | [], f => f []
  | c :: l, f => fCV c fun c => fCs l fun l => f (c :: l)
def fTV {R : Type} : TV → (TV → R) → R
  | .c x, f => fCV x fun x => f (.c x)
  | .agg cs, f => fCs cs fun cs => f (.agg cs)
def fTs {R : Type} : List TV → (List TV → R) → R
  | [], f => f []
  | c :: l, f => fTV c fun c => fTs l fun l => f (c :: l)
def fGs {R : Type} : List (Nat × Bool × Bool) → (List (Nat × Bool × Bool) → R) → R
  | [], f => f []
  | (t, p, c) :: l, f => fGs l fun l => f ((t, p, c) :: l)
def fSV {R : Type} : SV → (SV → R) → R
  | .t x, f => fTV x fun x => f (.t x)
  | .tup x, f => fTs x fun x => f (.tup x)
  | .gd cs x, f => fTV x fun x => fGs cs fun cs => f (.gd cs x)
def fOb {R : Type} : Ob → (Ob → R) → R
  | .cells cs t, f => fCs cs fun cs => f (.cells cs t)
  | .row xs t, f => f (.row xs t)
  | .rd s l xs, f => f (.rd s l xs)
  | .own t s l xs, f => f (.own t s l xs)
  | .ab φ, f => f (.ab φ)
  | .mp m, f => f (.mp m)
  | .pin m x, f => f (.pin m x)
def fPs {R : Type} : List Prop → (List Prop → R) → R
  | [], f => f []
  | p :: l, f => fPs l fun l => f (p :: l)
theorem fPs_eq {R : Type} : ∀ (l : List Prop) (f : List Prop → R), fPs l f = f l
  | [], _ => rfl
  | p :: l, f => by rw [fPs, fPs_eq l]
theorem fCV_eq {R : Type} (c : CV) (f : CV → R) : fCV c f = f c := by cases c <;> rfl
theorem fCs_eq {R : Type} : ∀ (l : List CV) (f : List CV → R), fCs l f = f l
  | [], _ => rfl
  | c :: l, f => by rw [fCs, fCV_eq, fCs_eq l]
theorem fTV_eq {R : Type} (c : TV) (f : TV → R) : fTV c f = f c := by cases c <;> simp [fTV, fCV_eq, fCs_eq]
theorem fTs_eq {R : Type} : ∀ (l : List TV) (f : List TV → R), fTs l f = f l
  | [], _ => rfl
  | c :: l, f => by rw [fTs, fTV_eq, fTs_eq l]
theorem fGs_eq {R : Type} : ∀ (l : List (Nat × Bool × Bool)) (f : List (Nat × Bool × Bool) → R), fGs l f = f l
  | [], _ => rfl
  | (_, _, _) :: l, f => by rw [fGs, fGs_eq l]
theorem fSV_eq {R : Type} (c : SV) (f : SV → R) : fSV c f = f c := by cases c <;> simp [fSV, fTV_eq, fTs_eq, fGs_eq]
theorem fOb_eq {R : Type} (c : Ob) (f : Ob → R) : fOb c f = f c := by cases c <;> simp [fOb, fCs_eq]
def addN {R : Type} : Nat → List (Bool × Ob) → HL → (Nat → HL → R) → R
  | n, [], H, f => f n H
  | n, (b, o) :: l, H, f => fOb o fun o => addN (n + 1) l ((n, some (b, o)) :: H) f
def addU {R : Type} : List (Nat × Option Ob) → HL → (HL → R) → R
  | [], H, f => f H
  | (n, some o) :: l, H, f => fOb o fun o => addU l ((n, some (true, o)) :: H) f
  | (n, none) :: l, H, f => addU l ((n, none) :: H) f
def addNs : Nat → List (Bool × Ob) → HL → HL
  | _, [], H => H
  | n, (b, o) :: l, H => addNs (n + 1) l ((n, some (b, o)) :: H)
def addUs : List (Nat × Option Ob) → HL → HL
  | [], H => H
  | (n, o) :: l, H => addUs l ((n, o.map fun o => (true, o)) :: H)
theorem addN_eq {R : Type} : ∀ (l : List (Bool × Ob)) (n : Nat) (H : HL) (f : Nat → HL → R), addN n l H f = f (n + l.length) (addNs n l H)
  | [], _, _, _ => rfl
  | (b, o) :: l, n, H, f => by rw [addN, fOb_eq, addN_eq l, addNs, List.length_cons, Nat.add_assoc, Nat.add_comm 1]
theorem addU_eq {R : Type} : ∀ (l : List (Nat × Option Ob)) (H : HL) (f : HL → R), addU l H f = f (addUs l H)
  | [], _, _ => rfl
  | (n, some o) :: l, H, f => by rw [addU, fOb_eq, addU_eq l]; rfl
  | (n, none) :: l, H, f => by rw [addU, addU_eq l]; rfl

theorem beq_nat (n m : Nat) : Nat.beq n m = true ↔ n = m := ⟨Nat.eq_of_beq_eq_true, fun h => h ▸ Nat.beq_refl n⟩
theorem look_cons {α : Type} (n m : Nat) (x : α) (l : List (Nat × α)) : look n ((m, x) :: l) = if n = m then some x else look n l := by
  rw [look]
  by_cases h : n = m
  · rw [if_pos ((beq_nat n m).2 h), if_pos h]
  · rw [if_neg (fun h' => h ((beq_nat n m).1 h')), if_neg h]
theorem lookH_cons (H : HL) (m : Nat) (x : Option (Bool × Ob)) (n : Nat) : lookH ((m, x) :: H) n = if n = m then x else lookH H n := by
  unfold lookH
  rw [look_cons]
  by_cases h : n = m
  · rw [if_pos h, if_pos h]
    cases x <;> rfl
  · rw [if_neg h, if_neg h]
theorem lookH_addNs : ∀ (l : List (Bool × Ob)) (k : Nat) (H : HL) (n : Nat), lookH (addNs k l H) n = if k ≤ n ∧ n < k + l.length then l[n - k]? else lookH H n
  | [], k, H, n => by rw [addNs, if_neg (by simp only [List.length_nil]; omega)]
  | (b, o) :: l, k, H, n => by
    rw [addNs, lookH_addNs l, lookH_cons]
    by_cases h : n = k
    · subst h
      rw [if_neg (by omega), if_pos rfl, if_pos (by simp)]
      simp
    · rw [if_neg h]
      by_cases h2 : k + 1 ≤ n ∧ n < k + 1 + l.length
      · rw [if_pos h2, if_pos (by simp; omega), show n - k = (n - (k + 1)) + 1 by omega, List.getElem?_cons_succ]
      · rw [if_neg h2, if_neg (by simp; omega)]
theorem lookH_addUs : ∀ (l : List (Nat × Option Ob)) (H : HL) (n : Nat), (∀ m o o', (m, o) ∈ l → (m, o') ∈ l → o = o') →
    lookH (addUs l H) n = match l.find? (fun x => x.1 == n) with
      | some (_, some o) => some (true, o)
      | some (_, none) => none
      | none => lookH H n
  | [], H, n, _ => rfl
  | (m, o) :: l, H, n, hnd => by
    rw [addUs, lookH_addUs l _ _ (fun m o o' h h' => hnd m o o' (List.mem_cons.2 (.inr h)) (List.mem_cons.2 (.inr h'))), lookH_cons, List.find?_cons]
    by_cases h : n = m
    · subst h
      simp only [beq_self_eq_true, if_true]
      cases hf : l.find? (fun x => x.1 == n) with
      | none => cases o <;> rfl
      | some x =>
        obtain ⟨m', o'⟩ := x
        have h1 := List.find?_some hf
        have h2 := List.mem_of_find?_eq_some hf
        simp at h1
        subst h1
        have := hnd m' o o' (by simp) (List.mem_cons.2 (.inr h2))
        subst this
        cases o <;> rfl
    · have : ((m, o).1 == n) = false := by simpa using fun e => h e.symm
      rw [this]
      simp only [if_neg h]

/-- What a step must keep to: names, temporaries. -/
def ltAll (b : Nat) : List Nat → Bool
  | [] => true
  | n :: l => match Nat.blt n b with
    | true => ltAll b l
    | false => false
def newsOk (b : Nat) : List (Bool × Ob) → Bool
  | [] => true
  | (_, o) :: l => match ltAll b o.ns with
    | true => newsOk b l
    | false => false
def notIn (n : Nat) : List (Nat × Option Ob) → Bool
  | [] => true
  | (m, _) :: l => match Nat.beq n m with
    | true => false
    | false => notIn n l
def updOk (b : Nat) (H : HL) : List (Nat × Option Ob) → Bool
  | [] => true
  | (n, o) :: l => match lookH H n with
    | some (true, _) => match notIn n l with
      | true => match (match o with | some o => ltAll b o.ns | none => true) with
        | true => updOk b H l
        | false => false
      | false => false
    | _ => false
def dstOk (N : Nat) : Option Tmp → Bool
  | some d => Nat.blt d N
  | none => true
def Eff.chk (E : Eff) (N nx : Nat) (H : HL) (d : Option Tmp) : Bool :=
  match ltAll (nx + E.news.length) E.v.ns with
  | true => match newsOk (nx + E.news.length) E.news with
    | true => match updOk (nx + E.news.length) H E.upd with
      | true => dstOk N d
      | false => false
    | false => false
  | false => false
theorem ltAll_mem {b : Nat} : ∀ {l : List Nat}, ltAll b l = true → ∀ n ∈ l, n < b
  | [], _, n, hn => by cases hn
  | m :: l, h, n, hn => by
    rw [ltAll] at h
    split at h
    · rename_i h1
      rcases List.mem_cons.1 hn with rfl | hn
      · simpa [Nat.blt_eq] using h1
      · exact ltAll_mem h n hn
    · cases h
theorem newsOk_mem {b : Nat} : ∀ {l : List (Bool × Ob)}, newsOk b l = true → ∀ x ∈ l, ∀ n ∈ x.2.ns, n < b
  | [], _, x, hx => by cases hx
  | (c, o) :: l, h, x, hx => by
    rw [newsOk] at h
    split at h
    · rename_i h1
      rcases List.mem_cons.1 hx with rfl | hx
      · exact ltAll_mem h1
      · exact newsOk_mem h x hx
    · cases h
theorem notIn_mem {n : Nat} : ∀ {l : List (Nat × Option Ob)}, notIn n l = true → ∀ x ∈ l, x.1 ≠ n
  | [], _, x, hx => by cases hx
  | (m, o) :: l, h, x, hx => by
    rw [notIn] at h
    split at h
    · cases h
    · rename_i h1
      rcases List.mem_cons.1 hx with rfl | hx
      · intro e
        have := (beq_nat n m).2 e.symm
        rw [h1] at this
        cases this
      · exact notIn_mem h x hx
theorem updOk_mem {b : Nat} {H : HL} : ∀ {l : List (Nat × Option Ob)}, updOk b H l = true → (∀ n o, (n, o) ∈ l → ∃ o0, lookH H n = some (true, o0)) ∧ (∀ n o o', (n, o) ∈ l → (n, o') ∈ l → o = o') ∧ ∀ n o, (n, some o) ∈ l → ∀ m ∈ o.ns, m < b
  | [], _ => by refine ⟨?_, ?_, ?_⟩ <;> intros <;> simp_all
  | (k, q) :: l, h => by
    unfold updOk at h
    split at h
    · rename_i o0 h1
      split at h
      · rename_i h2
        split at h
        · rename_i h3
          obtain ⟨i1, i2, i3⟩ := updOk_mem h
          refine ⟨fun n o hm => ?_, fun n o o' hm hm' => ?_, fun n o hm => ?_⟩
          · rcases List.mem_cons.1 hm with e | hm
            · cases e; exact ⟨_, h1⟩
            · exact i1 n o hm
          · rcases List.mem_cons.1 hm with e | hm <;> rcases List.mem_cons.1 hm' with e' | hm'
            · cases e; cases e'; rfl
            · cases e; exact absurd rfl (notIn_mem h2 _ hm')
            · cases e'; exact absurd rfl (notIn_mem h2 _ hm)
            · exact i2 n o o' hm hm'
          · rcases List.mem_cons.1 hm with e | hm
            · cases e; exact ltAll_mem h3
            · exact i3 n o hm
        · cases h
      · cases h
    · cases h

structure WF (L : LL) (H : HL) (nx : Nat) : Prop where
  l : ∀ t v, look t L = some v → ∀ n ∈ v.ns, n < nx
  h : ∀ n x, lookH H n = some x → n < nx ∧ ∀ m ∈ x.2.ns, m < nx
def pushL (d : Option Tmp) (v : SV) (L : LL) : LL := match d with
  | some d => (d, v) :: L
  | none => L
theorem look_pushL (d : Option Tmp) (v : SV) (L : LL) : (fun t => look t (pushL d v L)) = nextL d v (fun t => look t L) := by
  funext t
  cases d with
  | none => simp [pushL, nextL]
  | some d =>
    simp only [pushL, nextL, look_cons, Option.some.injEq]
    by_cases h : t = d
    · subst h; simp
    · rw [if_neg h, if_neg (fun e => h e.symm)]

theorem chk_spec {E : Eff} {N nx : Nat} {H : HL} {d : Option Tmp} (h : E.chk N nx H d = true) : (∀ n ∈ E.v.ns, n < nx + E.news.length) ∧ (∀ x ∈ E.news, ∀ n ∈ x.2.ns, n < nx + E.news.length) ∧
    (∀ n o, (n, o) ∈ E.upd → ∃ o0, lookH H n = some (true, o0)) ∧ (∀ n o o', (n, o) ∈ E.upd → (n, o') ∈ E.upd → o = o') ∧ (∀ n o, (n, some o) ∈ E.upd → ∀ m ∈ o.ns, m < nx + E.news.length) ∧ ∀ t, d = some t → t < N := by
  unfold Eff.chk at h
  split at h
  · rename_i h1
    split at h
    · rename_i h2
      split at h
      · rename_i h3
        obtain ⟨a, b, c⟩ := updOk_mem h3
        refine ⟨ltAll_mem h1, newsOk_mem h2, a, b, c, ?_⟩
        rintro t rfl
        simpa [dstOk, Nat.blt_eq] using h
      · cases h
    · cases h
  · cases h

theorem step_next {F : Frm} {L : LL} {H : HL} {nx : Nat} {E : Eff} {d : Option Tmp} (hW : WF L H nx) (hc : E.chk F.N nx H d = true) :
    WF (pushL d E.v L) (addUs E.upd (addNs nx E.news H)) (nx + E.news.length) ∧
    ∀ e e' a w w', Sat F (fun t => look t L) (lookH H) e a w → Mv nx E e e' w w' → Sat F (fun t => look t (pushL d E.v L)) (lookH (addUs E.upd (addNs nx E.news H))) e' (a.put d (E.v.den e')) w' := by
  obtain ⟨c1, c2, c3, c4, c5, c6⟩ := chk_spec hc
  have hnext : lookH (addUs E.upd (addNs nx E.news H)) = nextH nx E (lookH H) := by
    funext n
    rw [lookH_addUs _ _ _ c4, nextH]
    by_cases h : nx ≤ n ∧ n < nx + E.news.length
    · rw [if_pos h]
      have hf : E.upd.find? (fun x => x.1 == n) = none := by
        rw [List.find?_eq_none]
        rintro ⟨m, o⟩ hm he
        simp at he
        subst he
        obtain ⟨o0, h0⟩ := c3 _ _ hm
        have := (hW.h _ _ h0).1
        omega
      rw [hf]
      simp only [lookH_addNs, if_pos h]
    · rw [if_neg h]
      cases hf : E.upd.find? (fun x => x.1 == n) with
      | none => simp only [lookH_addNs, if_neg h]
      | some x =>
        obtain ⟨y1, y2⟩ := x
        cases y2 <;> rfl
  constructor
  · constructor
    · intro t v h
      have : look t (pushL d E.v L) = nextL d E.v (fun t => look t L) t := congrFun (look_pushL d E.v L) t
      rw [this, nextL] at h
      split at h
      · cases h; exact c1
      · intro n hn
        have := hW.l t v h n hn
        omega
    · intro n x h
      rw [hnext, nextH] at h
      split at h
      · rename_i h1
        refine ⟨by omega, c2 x (List.mem_of_getElem? h)⟩
      · split at h
        · rename_i q o hf
          have h1 := List.find?_some hf
          have h2 := List.mem_of_find?_eq_some hf
          simp at h1
          cases h
          subst h1
          obtain ⟨o0, h0⟩ := c3 _ _ h2
          have := (hW.h _ _ h0).1
          exact ⟨by omega, c5 _ _ h2⟩
        · cases h
        · obtain ⟨h1, h2⟩ := hW.h n x h
          exact ⟨by omega, fun m hm => by have := h2 m hm; omega⟩
  · intro e e' a w w' S M
    rw [look_pushL, hnext]
    exact sat_step S M (fun t v h n hn => .inl (hW.l t v h n hn)) (fun n x h => ⟨.inl (hW.h n x h).1, fun m hm => .inl ((hW.h n x h).2 m hm)⟩) c3 c4 c6

/-- Names that are known lie below. -/
def Low (L : LF) (H : HF) (nx : Nat) : Prop := (∀ t v, L t = some v → ∀ n ∈ v.ns, n < nx) ∧ ∀ n x, H n = some x → n < nx ∧ ∀ m ∈ x.2.ns, m < nx
/-- A step of one operation. -/
def StepOK (P : Program) (F : Frm) (L : LF) (H : HF) (nx : Nat) (o : Oper) (E : Eff) : Prop :=
  Low L H nx → ∀ e a w, Sat F L H e a w → ∀ (K : Act → World → Prop) (Q : Exit → Act → World → Prop), (∀ e' w', Mv nx E e e' w w' → K (a.put o.dst (E.v.den e')) w') → o.wp P a w K Q
abbrev Stp := LL → HL → Nat → Oper → Option Eff
def Sound (P : Program) (st : Stp) : Prop := ∀ F L H nx o E, st L H nx o = some E → allP E.obs → StepOK P F (fun t => look t L) (lookH H) nx o E

theorem Mv.refl (nx : Nat) (v : SV) (obs : List Prop) (e : Env) (w : World) : Mv nx ⟨v, [], [], obs⟩ e e w w :=
  .old ⟨fun _ _ => ⟨rfl, rfl, rfl⟩, rfl, rfl, rfl, Nat.le_refl _, fun _ _ _ => rfl, fun k b o h => by simp at h, fun j k h => by simp at h, fun n o h => by cases h⟩

def eqB : Bool → Bool → Bool
  | true, b => b
  | false, true => false
  | false, false => true
theorem eqB_true {a b : Bool} : eqB a b = true ↔ a = b := by cases a <;> cases b <;> simp [eqB]
theorem eqB_false {a b : Bool} : eqB a b = false ↔ a ≠ b := by cases a <;> cases b <;> simp [eqB]
/-- A test among tests: its place in a list, by the temporary and what is wanted. -/
def hasC (t : Nat) (p : Bool) : List (Nat × Bool × Bool) → Option Bool
  | [] => none
  | (t', p', c) :: l => match Nat.beq t t' with
    | true => match eqB p p' with
      | true => some c
      | false => hasC t p l
    | false => hasC t p l
/-- What is left of tests, where those of ks came out as wanted; what is asked for that: a test is one and the same. -/
def remC (ks : List (Nat × Bool × Bool)) : List (Nat × Bool × Bool) → List (Nat × Bool × Bool)
  | [] => []
  | (t, p, c) :: l => match hasC t p ks with
    | some _ => remC ks l
    | none => (t, p, c) :: remC ks l
def eqC (ks : List (Nat × Bool × Bool)) : List (Nat × Bool × Bool) → List Prop
  | [] => []
  | (t, p, c) :: l => match hasC t p ks with
    | some c' => (c = c') :: eqC ks l
    | none => eqC ks l
/-- Under tests that came out as wanted, what was made under the same tests is plain. -/
def resV (ks : List (Nat × Bool × Bool)) : SV → SV
  | .gd cs x => match remC ks cs with
    | [] => .t x
    | y :: l => .gd (y :: l) x
  | .t x => .t x
  | .tup x => .tup x
def resL (ks : List (Nat × Bool × Bool)) : LL → LL
  | [] => []
  | (d, v) :: l => (d, resV ks v) :: resL ks l
def eqL (ks : List (Nat × Bool × Bool)) : LL → List Prop
  | [] => []
  | (_, .gd cs _) :: l => app (eqC ks cs) (eqL ks l)
  | (_, .t _) :: l => eqL ks l
  | (_, .tup _) :: l => eqL ks l
def condP (ks : List (Nat × Bool × Bool)) : List Prop → List Prop
  | [] => []
  | p :: l => (condB ks = true → p) :: condP ks l

def selL (L : LL) : List Nat → LL
  | [] => []
  | t :: l => match look t L with
    | some v => (t, v) :: selL L l
    | none => selL L l
def tmpsOf : List Operand → List Nat
  | [] => []
  | .tmp t :: l => t :: tmpsOf l
  | _ :: l => tmpsOf l
def optO : Option Operand → List Operand
  | some x => [x]
  | none => []
def sndO : List (Nat × Operand) → List Operand
  | [] => []
  | (_, x) :: l => x :: sndO l
/-- The operands of the operations that are met. -/
def opnds : Op → List Operand
  | .move x | .assign x | .box _ x | .load _ x | .nilCheck x | .unOp _ _ x | .convert _ _ x | .sliceToArrayPointer _ x | .makeInterface _ x
  | .makeChan _ x | .fieldAddr _ x _ | .field _ x _ | .range _ x | .next x _ | .entry x | .typeAssert x _ _ _ | .extract x _ | .panic x | .recv _ x _ => [x]
  | .pick c a b => [c, a, b]
  | .build _ ps | .buildSlice _ _ ps => sndO ps.toList
  | .store _ a v | .binOp _ _ a v _ | .makeSlice _ a v | .indexAddr _ a v | .index _ a v | .lookup _ a v _ | .mapEntry _ a v | .send a v => [a, v]
  | .makeFunc _ first captured => app first.toList captured.toList
  | .makeMap _ r => optO r
  | .slice _ x l h m => x :: app (optO l) (app (optO h) (optO m))
  | .mapUpdate _ m k v | .entryStore _ m k v | .insert _ m k v => [m, k, v]
  | .call c => match c.callee with
    | .value f => f :: c.args.toList
    | .invoke r _ => r :: c.args.toList
    | .builtin _ => c.args.toList
  | _ => []
def stepG (st : Stp) (orc : List (Nat × Orc)) (ops : List Oper) (L : LL) (H : HL) (nx : Nat) (o : Oper) : Option Eff :=
  match o.guard with
  | none => st L H nx o
  | some (g, pol) => match nth g ops with
    | some og => match og.dst with
      | some t => match look t L with
        | some (.t (.c (.b c))) => match look t orc with
          | some (.dec bit) => match eqB bit pol with
            | true => match st L H nx o with
              | some ⟨v, news, upd, obs⟩ => some ⟨v, news, upd, (c = bit) :: obs⟩
              | none => none
            | false => some ⟨.t (.c (.raw undef)), [], [], [c = bit]⟩
          | _ => match st (resL [(t, pol, c)] (selL L (tmpsOf (opnds o.op)))) H nx o with
            | some ⟨.t x, [], [], obs⟩ => some ⟨.gd [(t, pol, c)] x, [], [], app (eqL [(t, pol, c)] (selL L (tmpsOf (opnds o.op)))) (condP [(t, pol, c)] obs)⟩
            | _ => none
        | some (.gd cs (.c (.b c))) => match st (resL (app cs [(t, pol, c)]) (selL L (tmpsOf (opnds o.op)))) H nx o with
          | some ⟨.t x, [], [], obs⟩ => some ⟨.gd (app cs [(t, pol, c)]) x, [], [], app (eqL (app cs [(t, pol, c)]) (selL L (tmpsOf (opnds o.op)))) (condP (app cs [(t, pol, c)]) obs)⟩
          | _ => none
        | some (.t (.c (.raw (.tuple _)))) => some ⟨.t (.c (.raw undef)), [], [], []⟩
        | _ => none
      | none => none
    | none => none
/-- A step with its guard. -/
def GOK (P : Program) (F : Frm) (ops : Array Oper) (L : LF) (H : HF) (nx : Nat) (o : Oper) (E : Eff) : Prop :=
  Low L H nx → ∀ e a w, Sat F L H e a w → ∀ (K : Act → World → Prop) (Q : Exit → Act → World → Prop), (∀ e' w', Mv nx E e e' w w' → K (a.put o.dst (E.v.den e')) w') →
    if Region.wanted o (yielded ops a.tmps) then o.wp P a w K Q else K (a.put o.dst undef) w

theorem hasC_ok {t : Nat} {p c : Bool} : ∀ {ks : List (Nat × Bool × Bool)}, condB ks = true → hasC t p ks = some c → c = p
  | [], _, h => by cases h
  | (t', p', c') :: l, hk, h => by
    simp only [condB, Bool.and_eq_true, beq_iff_eq] at hk
    unfold hasC at h
    split at h
    · split at h
      · rename_i hp
        cases h
        rw [hk.1, eqB_true.1 hp]
      · exact hasC_ok hk.2 h
    · exact hasC_ok hk.2 h
theorem remC_ok {ks : List (Nat × Bool × Bool)} (hk : condB ks = true) : ∀ {cs : List (Nat × Bool × Bool)}, allP (eqC ks cs) → condB (remC ks cs) = condB cs
  | [], _ => rfl
  | (t, p, c) :: l, h => by
    unfold eqC at h
    unfold remC
    split at h
    · rename_i c' hc
      have h1 : c = c' := h.1
      have h2 := hasC_ok hk hc
      simp only [condB, remC_ok hk h.2]
      rw [h1, h2]
      simp
    · rename_i hc
      simp only [condB, remC_ok hk h]
theorem eqL_spec {ks : List (Nat × Bool × Bool)} : ∀ {L : LL}, allP (eqL ks L) → ∀ d cs x, look d L = some (.gd cs x) → allP (eqC ks cs)
  | [], _, d, cs, x, h => by cases h
  | (m, v0) :: l, ha, d, cs, x, h => by
    rw [look_cons] at h
    cases v0 with
    | t _ =>
      split at h
      · cases h
      · exact eqL_spec (L := l) ha d cs x h
    | tup _ =>
      split at h
      · cases h
      · exact eqL_spec (L := l) ha d cs x h
    | gd cs' y =>
      have ha' := allP_app.1 (ha : allP (app (eqC ks cs') (eqL ks l)))
      split at h
      · cases h; exact ha'.1
      · exact eqL_spec ha'.2 d cs x h
theorem look_resL {ks : List (Nat × Bool × Bool)} (d : Nat) : ∀ L : LL, look d (resL ks L) = (look d L).map (resV ks)
  | [] => rfl
  | (m, v) :: l => by
    rw [resL, look_cons, look_cons, look_resL d l]
    split <;> rfl
theorem resV_ns (ks : List (Nat × Bool × Bool)) (v : SV) : (resV ks v).ns = v.ns := by
  cases v with
  | t _ => rfl
  | tup _ => rfl
  | gd cs x =>
    unfold resV
    simp only
    split <;> rfl
theorem resV_den {ks : List (Nat × Bool × Bool)} (hk : condB ks = true) {v : SV} (h : ∀ cs x, v = .gd cs x → allP (eqC ks cs)) (e : Env) : (resV ks v).den e = v.den e := by
  cases v with
  | t _ => rfl
  | tup _ => rfl
  | gd cs x =>
    have h1 := remC_ok hk (h cs x rfl)
    unfold resV
    simp only
    split
    · rename_i hr
      rw [hr] at h1
      simp only [SV.den]
      rw [if_pos (h1.symm.trans rfl : condB cs = true)]
    · rename_i y l hr
      rw [hr] at h1
      simp only [SV.den, h1]
theorem allP_cond {ks : List (Nat × Bool × Bool)} (h : condB ks = true) : ∀ {l : List Prop}, allP (condP ks l) → allP l
  | [], _ => trivial
  | _ :: _, ⟨h1, h2⟩ => ⟨h1 h, allP_cond h h2⟩
theorem condB_app (l m : List (Nat × Bool × Bool)) : condB (app l m) = (condB l && condB m) := by
  induction l with
  | nil => simp [app, condB]
  | cons a l ih =>
    obtain ⟨t, p, c⟩ := a
    simp [app, condB, ih, Bool.and_assoc]
theorem yielded_slot {ops : Array Oper} {g : Nat} {og : Oper} {t : Tmp} {a : Act} (ho : ops[g]? = some og) (hd : og.dst = some t) {c : Bool} (hs : slot a t = .bool c) : yielded ops a.tmps g = some c := by
  rw [slot_get] at hs
  unfold yielded
  have : ((ops[g]?).bind (·.dst)).bind (a.tmps[·]?) = a.tmps[t]? := by simp [ho, hd]
  rw [this]
  cases hv : a.tmps[t]? with
  | none => rw [hv] at hs; simp [undef] at hs
  | some v => rw [hv] at hs; simp at hs; subst hs; rfl

theorem look_selL {L : LL} {d : Nat} {v : SV} : ∀ {l : List Nat}, look d (selL L l) = some v → look d L = some v
  | [], h => by cases h
  | t :: l, h => by
    unfold selL at h
    split at h
    · rename_i v0 hv
      rw [look_cons] at h
      split at h
      · rename_i e
        cases h
        subst e
        exact hv
      · exact look_selL h
    · exact look_selL h
theorem yielded_undef {ops : Array Oper} {g : Nat} {og : Oper} {t : Tmp} {a : Act} (ho : ops[g]? = some og) (hd : og.dst = some t) {vs : Array Value} (hs : slot a t = .tuple vs) : yielded ops a.tmps g = none := by
  rw [slot_get] at hs
  unfold yielded
  have : ((ops[g]?).bind (·.dst)).bind (a.tmps[·]?) = a.tmps[t]? := by simp [ho, hd]
  rw [this]
  cases hv : a.tmps[t]? with
  | none => rfl
  | some v => rw [hv] at hs; simp at hs; subst hs; rfl
/-- An operation behind tests that are not decided. -/
theorem guarded_ok {P : Program} {F : Frm} {st : Stp} {L : LL} {H : HL} {nx : Nat} {o : Oper} {ks : List (Nat × Bool × Bool)} {x : TV} {obs : List Prop} (hst : Sound P st) (hE : st (resL ks L) H nx o = some ⟨.t x, [], [], obs⟩) (ho1 : allP (eqL ks L)) (ho2 : allP (condP ks obs)) (hlow : Low (fun t => look t L) (lookH H) nx)
    {ops : Array Oper} {e : Env} {a : Act} {w : World} (S : Sat F (fun t => look t L) (lookH H) e a w) (hwant : Region.wanted o (yielded ops a.tmps) = true ↔ condB ks = true) {K : Act → World → Prop} {Q : Exit → Act → World → Prop} {obs' : List Prop}
    (hK : ∀ e' w', Mv nx ⟨.gd ks x, [], [], obs'⟩ e e' w w' → K (a.put o.dst ((SV.gd ks x).den e')) w') : if Region.wanted o (yielded ops a.tmps) then o.wp P a w K Q else K (a.put o.dst undef) w := by
  by_cases hcp : condB ks = true
  · rw [if_pos (hwant.2 hcp)]
    have hL : Sat F (fun t' => look t' (resL ks L)) (lookH H) e a w := by
      refine ⟨S.fr, S.sz, S.df, fun d v hd => ?_, S.ob, S.dj⟩
      simp only [look_resL] at hd
      cases hv : look d L with
      | none => rw [hv] at hd; cases hd
      | some v0 =>
        rw [hv] at hd
        simp only [Option.map_some, Option.some.injEq] at hd
        subst hd
        rw [S.sl d v0 hv, resV_den hcp (fun cs x hx => eqL_spec ho1 d cs x (by rw [hv, hx]))]
    have hlow2 : Low (fun t' => look t' (resL ks L)) (lookH H) nx := by
      refine ⟨fun d v hd n hn => ?_, hlow.2⟩
      simp only [look_resL] at hd
      cases hv : look d L with
      | none => rw [hv] at hd; cases hd
      | some v0 =>
        rw [hv] at hd
        simp only [Option.map_some, Option.some.injEq] at hd
        subst hd
        rw [resV_ns] at hn
        exact hlow.1 d v0 hv n hn
    refine hst F _ H nx o _ hE (allP_cond hcp ho2) hlow2 e a w hL K Q fun e' w' M => ?_
    have := hK e' w' M.as
    simp only [SV.den] at this ⊢
    rwa [if_pos hcp] at this
  · rw [if_neg (fun hw => hcp (hwant.1 hw))]
    have := hK e w (Mv.refl _ _ _ _ _)
    simp only [SV.den] at this
    rwa [if_neg hcp] at this
theorem lowSel {L : LL} {H : HF} {nx : Nat} {l : List Nat} (h : Low (fun t => look t L) H nx) : Low (fun t => look t (selL L l)) H nx := ⟨fun t v ht => h.1 t v (look_selL ht), h.2⟩
theorem stepG_ok {P : Program} {F : Frm} {st : Stp} {orc : List (Nat × Orc)} {ops : Array Oper} {L : LL} {H : HL} {nx : Nat} {o : Oper} {E : Eff} (hst : Sound P st) (h : stepG st orc ops.toList L H nx o = some E) (ho : allP E.obs) :
    GOK P F ops (fun t => look t L) (lookH H) nx o E := by
  intro hlow e a w S K Q hK
  unfold stepG at h
  split at h
  · rename_i hg
    rw [if_pos (by simp [Region.wanted, hg])]
    exact hst F L H nx o E h ho hlow e a w S K Q hK
  · rename_i g pol hg
    split at h
    · rename_i og hog
      rw [nth_eq, Array.getElem?_toList] at hog
      split at h
      · rename_i t ht
        split at h
        · rename_i c hc
          have hsl := S.sl t _ hc
          have hy : yielded ops a.tmps g = some c := yielded_slot hog ht hsl
          have hwant : Region.wanted o (yielded ops a.tmps) = true ↔ c = pol := by
            simp only [Region.wanted, hg, hy]
            simp
          split at h
          · rename_i bit hbit
            split at h
            · rename_i hbp
              rw [eqB_true] at hbp
              subst hbp
              split at h
              · rename_i v news upd obs hE
                cases h
                obtain ⟨h1, h2⟩ := ho
                rw [if_pos (hwant.2 h1)]
                refine hst F L H nx o _ hE h2 hlow e a w S K Q fun e' w' M => hK e' w' ?_
                exact M.as
              · cases h
            · rename_i hbp
              cases h
              have : c = bit := ho.1
              subst this
              rw [if_neg (fun hw => eqB_false.1 hbp (hwant.1 hw))]
              exact hK e w (Mv.refl _ _ _ _ _)
          · split at h
            · rename_i x obs hE
              cases h
              rw [allP_app] at ho
              exact guarded_ok hst hE ho.1 ho.2 (lowSel hlow) (S.weak (fun t v h => look_selL h) (fun _ _ h => h)) (by rw [hwant]; simp [condB]) hK
            · cases h
        · rename_i cs c hc
          have hsl := S.sl t _ hc
          split at h
          · rename_i x obs hE
            cases h
            rw [allP_app] at ho
            refine guarded_ok hst hE ho.1 ho.2 (lowSel hlow) (S.weak (fun t v h => look_selL h) (fun _ _ h => h)) ?_ hK
            rw [condB_app]
            simp only [SV.den] at hsl
            by_cases hcs : condB cs = true
            · rw [if_pos hcs] at hsl
              have hy : yielded ops a.tmps g = some c := yielded_slot hog ht hsl
              simp only [Region.wanted, hg, hy, hcs, condB]
              simp
            · rw [if_neg hcs] at hsl
              have hy : yielded ops a.tmps g = none := yielded_undef hog ht hsl
              simp only [Region.wanted, hg, hy]
              simp [hcs]
          · cases h
        · rename_i vs hc
          cases h
          have hy : yielded ops a.tmps g = none := yielded_undef hog ht (S.sl t _ hc)
          rw [if_neg (by simp [Region.wanted, hg, hy])]
          exact hK e w (Mv.refl _ _ _ _ _)
        · cases h
      · cases h
    · cases h

/-- The operations of a region in the order of the text. -/
def seqR {R : Type} (st : Stp) (orc : List (Nat × Orc)) (N : Nat) (ops : List Oper) : List Oper → LL → HL → Nat → List Prop → (LL → HL → Nat → List Prop → R) → R → R
  | [], L, H, nx, ps, f, _ => f L H nx ps
  | o :: l, L, H, nx, ps, f, g => match stepG st orc ops L H nx o with
    | some ⟨v, news, upd, obs⟩ => match Eff.chk ⟨v, news, upd, obs⟩ N nx H o.dst with
      | true => fSV v fun v => addN nx news H fun nx H' => addU upd H' fun H'' => fPs (app obs ps) fun ps => match o.dst with
        | some d => seqR st orc N ops l ((d, v) :: L) H'' nx ps f g
        | none => seqR st orc N ops l L H'' nx ps f g
      | false => g
    | none => g

theorem seqR_ok {R : Type} {P : Program} {F : Frm} {st : Stp} {orc : List (Nat × Orc)} {ops : Array Oper} (hst : Sound P st) {Q : Exit → Act → World → Prop} {f : LL → HL → Nat → List Prop → R} {g r : R} (hg : g ≠ r) :
    ∀ {l : List Oper} {L : LL} {H : HL} {nx : Nat} {ps : List Prop}, seqR st orc F.N ops.toList l L H nx ps f g = r → WF L H nx →
      ∃ L' H' nx' ps', f L' H' nx' ps' = r ∧ WF L' H' nx' ∧ (allP ps' → allP ps) ∧ (allP ps' → (∀ e a w, Sat F (fun t => look t L') (lookH H') e a w → Q .normal a w) → ∀ e a w, Sat F (fun t => look t L) (lookH H) e a w → wpList P ops Q l a w) := by
  intro l
  induction l with
  | nil =>
    intro L H nx ps h hW
    exact ⟨L, H, nx, ps, h, hW, id, fun _ hQ e a w S => hQ e a w S⟩
  | cons o l ih =>
    intro L H nx ps h hW
    unfold seqR at h
    split at h
    · rename_i v news upd obs hE
      split at h
      · rename_i hc
        simp only [fSV_eq, addN_eq, addU_eq, fPs_eq] at h
        obtain ⟨hW2, hnext⟩ := step_next (F := F) hW hc
        have h' : seqR st orc F.N ops.toList l (pushL o.dst v L) (addUs upd (addNs nx news H)) (nx + news.length) (app obs ps) f g = r := by
          cases hd : o.dst with
          | none => rw [hd] at h; exact h
          | some d => rw [hd] at h; exact h
        obtain ⟨L', H', nx', ps', h1, h2, h3, h4⟩ := ih h' hW2
        refine ⟨L', H', nx', ps', h1, h2, fun hp => ?_, fun hp hQ e a w S => ?_⟩
        · have := h3 hp
          rw [allP_app] at this
          exact this.2
        · have hobs : allP obs := by
            have := h3 hp
            rw [allP_app] at this
            exact this.1
          refine wpList_step fun K hK => ?_
          exact stepG_ok hst hE hobs ⟨hW.l, hW.h⟩ e a w S K Q fun e' w' M => hK _ _ (h4 hp hQ e' _ w' (hnext e e' a w w' S M))
      · exact absurd h hg
    · exact absurd h hg
end Vc
namespace Vc
open Go Go.RowKit

/-- Marks in a number. -/
def bit (m i : Nat) : Bool := Nat.beq (Nat.land 1 (Nat.shiftRight m i)) 1
theorem bit_eq (m i : Nat) : bit m i = m.testBit i := by
  have h : Nat.land 1 (Nat.shiftRight m i) = (m >>> i) % 2 := by
    show 1 &&& (m >>> i) = _
    rw [Nat.and_comm, Nat.and_one_is_mod]
  rw [Nat.testBit, bit, h, Nat.and_comm, Nat.and_one_is_mod]
  rcases Nat.mod_two_eq_zero_or_one (m >>> i) with h | h <;> rw [h] <;> rfl
theorem bit_or (a b i : Nat) : bit (Nat.lor a b) i = (bit a i || bit b i) := by
  simp only [bit_eq]
  exact Nat.testBit_or a b i
theorem bit_pow (k i : Nat) : bit (Nat.pow 2 k) i = decide (k = i) := by
  rw [bit_eq]
  exact Nat.testBit_two_pow
theorem bit_zero (i : Nat) : bit 0 i = false := by rw [bit_eq]; exact Nat.zero_testBit i
/-- Marks from k on, so many. -/
def span (k n : Nat) : Nat := Nat.shiftLeft (Nat.sub (Nat.pow 2 n) 1) k
theorem bit_span (k n i : Nat) : bit (span k n) i = (decide (k ≤ i) && decide (i < k + n)) := by
  rw [bit_eq, span]
  show ((2 ^ n - 1) <<< k).testBit i = _
  rw [Nat.testBit_shiftLeft, Nat.testBit_two_pow_sub_one]
  by_cases h : k ≤ i
  · simp [h]; omega
  · simp [h]
def fN {R : Type} (n : Nat) (f : Nat → R) : R := match n with
  | 0 => f 0
  | m + 1 => f (m + 1)
theorem fN_eq {R : Type} (n : Nat) (f : Nat → R) : fN n f = f n := by cases n <;> rfl

/-- How many, as a numeral. -/
def lenK {R : Type} {α : Type} : List α → (Nat → R) → R
  | [], f => f 0
  | _ :: l, f => lenK l fun n => f (n + 1)
theorem lenK_eq {R : Type} {α : Type} : ∀ (l : List α) (f : Nat → R), lenK l f = f l.length
  | [], _ => rfl
  | _ :: l, f => by rw [lenK, lenK_eq l]; rfl

structure Rc where
  o : Oper
  E : Eff
  nx : Nat
  anc : Nat
  am : Nat
  us : List Nat
  rds : List Nat
def fRc {R : Type} : Rc → (Nat → Nat → R) → R
  | ⟨_, _, _, a, m, _, _⟩, f => f a m
theorem fRc_eq {R : Type} (r : Rc) (f : Nat → Nat → R) : fRc r f = f r.anc r.am := by cases r; rfl
abbrev LX := List (Nat × SV × Nat)
abbrev HX := List (Nat × Option (Bool × Ob) × Nat)

def readsOf (ops : List Oper) (o : Oper) : List Nat := match o.guard with
  | none => tmpsOf (opnds o.op)
  | some (g, _) => match nth g ops with
    | some og => match og.dst with
      | some t => t :: tmpsOf (opnds o.op)
      | none => tmpsOf (opnds o.op)
    | none => tmpsOf (opnds o.op)

def ancE {R : Type} (rs : List (Nat × Rc)) : List Edge → Nat → Nat → (Nat → Nat → R) → R → R
  | [], an, am, f, _ => f an am
  | e :: l, an, am, f, g => match Region.binds .any e with
    | false => ancE rs l an am f g
    | true => match look e.on rs with
      | some r => fRc r fun ra rm => fN (Nat.lor an (Nat.lor (Nat.pow 2 e.on) ra)) fun an => fN (Nat.lor am rm) fun am => ancE rs l an am f g
      | none => g
def visL (an : Nat) (X : LX) : List Nat → LL
  | [] => []
  | t :: l => match look t X with
    | some (v, 0) => (t, v) :: visL an X l
    | some (v, i + 1) => match bit an i with
      | true => (t, v) :: visL an X l
      | false => visL an X l
    | none => visL an X l
def visH (an : Nat) : HX → HL
  | [] => []
  | (n, x, 0) :: l => (n, x) :: visH an l
  | (n, x, i + 1) :: l => match bit an i with
    | true => (n, x) :: visH an l
    | false => (n, none) :: visH an l
def inL (d : Nat) : List Nat → Bool
  | [] => false
  | t :: l => match Nat.beq d t with
    | true => true
    | false => inL d l
def isDst (d : Nat) : Option Tmp → Bool
  | some t => Nat.beq d t
  | none => false
/-- Who reads or writes this temporary comes first. -/
def k2 (an d : Nat) : List (Nat × Rc) → Bool
  | [] => true
  | (i, r) :: l => match inL d r.rds, isDst d r.o.dst with
    | false, false => k2 an d l
    | _, _ => match bit an i with
      | true => k2 an d l
      | false => false
def hitsU (us : List Nat) : List (Nat × Option Ob) → Bool
  | [] => false
  | (n, _) :: l => match inL n us with
    | true => true
    | false => hitsU us l
/-- Who looks into what is written comes first. -/
def k4 (an : Nat) (upd : List (Nat × Option Ob)) : List (Nat × Rc) → Bool
  | [] => true
  | (i, r) :: l => match hitsU r.us upd with
    | false => k4 an upd l
    | true => match bit an i with
      | true => k4 an upd l
      | false => false
def allIn (am : Nat) : List Nat → Bool
  | [] => true
  | n :: l => match bit am n with
    | true => allIn am l
    | false => false
def newsIn (am : Nat) : List (Bool × Ob) → Bool
  | [] => true
  | (_, o) :: l => match allIn am o.ns with
    | true => newsIn am l
    | false => false
def updIn (am : Nat) (H : HL) : List (Nat × Option Ob) → Bool
  | [] => true
  | (n, o) :: l => match lookH H n with
    | some (true, _) => match notIn n l with
      | true => match (match o with | some o => allIn am o.ns | none => true) with
        | true => updIn am H l
        | false => false
      | false => false
    | _ => false
def Eff.chkD (E : Eff) (N am an : Nat) (H : HL) (rs : List (Nat × Rc)) (d : Option Tmp) : Bool :=
  match allIn am E.v.ns with
  | true => match newsIn am E.news with
    | true => match updIn am H E.upd with
      | true => match d with
        | some d => match Nat.blt d N with
          | true => match k2 an d rs with
            | true => k4 an E.upd rs
            | false => false
          | false => false
        | none => k4 an E.upd rs
      | false => false
    | false => false
  | false => false
def addNX {R : Type} (j : Nat) : Nat → List (Bool × Ob) → HX → (Nat → HX → R) → R
  | n, [], H, f => f n H
  | n, (b, o) :: l, H, f => fOb o fun o => addNX j (n + 1) l ((n, some (b, o), j + 1) :: H) f
def addUX {R : Type} (j : Nat) : List (Nat × Option Ob) → HX → (HX → R) → R
  | [], H, f => f H
  | (n, some o) :: l, H, f => fOb o fun o => addUX j l ((n, some (true, o), j + 1) :: H) f
  | (n, none) :: l, H, f => addUX j l ((n, none, j + 1) :: H) f
def tagL {R : Type} : LL → (LX → R) → R
  | [], f => f []
  | (t, v) :: l, f => tagL l fun l => f ((t, v, 0) :: l)
def tagH {R : Type} : HL → (HX → R) → R
  | [], f => f []
  | (t, v) :: l, f => tagH l fun l => f ((t, v, 0) :: l)
def untL {R : Type} : LX → (LL → R) → R
  | [], f => f []
  | (t, v, _) :: l, f => untL l fun l => f ((t, v) :: l)
def untH {R : Type} : HX → (HL → R) → R
  | [], f => f []
  | (t, v, _) :: l, f => untH l fun l => f ((t, v) :: l)
def pushX (j : Nat) (d : Option Tmp) (v : SV) (X : LX) : LX := match d with
  | some d => (d, v, j + 1) :: X
  | none => X
def fNs {R : Type} : List Nat → (List Nat → R) → R
  | [], f => f []
  | n :: l, f => fN n fun n => fNs l fun l => f (n :: l)
theorem fNs_eq {R : Type} : ∀ (l : List Nat) (f : List Nat → R), fNs l f = f l
  | [], _ => rfl
  | n :: l, f => by rw [fNs, fN_eq, fNs_eq l]
def joinN : List Nat → List Nat → List Nat
  | [], l => l
  | n :: m, l => match inL n l with
    | true => joinN m l
    | false => joinN m (n :: l)
def nsL : LL → List Nat
  | [] => []
  | (_, v) :: l => joinN v.ns (nsL l)
def reachH (H : HL) : List Nat → List Nat → List Nat
  | [], acc => acc
  | n :: l, acc => match lookH H n with
    | some (_, o) => reachH H l (joinN o.ns acc)
    | none => reachH H l acc
def selH (ns : List Nat) : HL → HL
  | [] => []
  | (n, x) :: l => match inL n ns with
    | true => (n, x) :: selH ns l
    | false => selH ns l
def fSel {R : Type} (ns : List Nat) : HL → (HL → R) → R
  | [], f => f []
  | (n, x) :: l, f => match inL n ns with
    | true => fSel ns l fun l => f ((n, x) :: l)
    | false => fSel ns l f
theorem fSel_eq {R : Type} (ns : List Nat) : ∀ (H : HL) (f : HL → R), fSel ns H f = f (selH ns H)
  | [], _ => rfl
  | (n, x) :: l, f => by
    unfold fSel selH
    cases inL n ns <;> exact fSel_eq ns l _
def keysL : HL → List Nat
  | [] => []
  | (n, _) :: l => n :: keysL l
/-- Is all memory to be seen (an oracle by 30000 and the slot)? -/
def allOf (orc : List (Nat × Orc)) (o : Oper) : Bool := match o.dst with
  | some d => match look (30000 + d) orc with
    | some (.dec true) => true
    | _ => false
  | none => false
/-- Is just what the operands name to be seen (an oracle by 50000 and the slot)? -/
def nearOf (orc : List (Nat × Orc)) (o : Oper) : Bool := match o.dst with
  | some d => match look (50000 + d) orc with
    | some (.dec true) => true
    | _ => false
  | none => false
/-- One operation behind its guard: with no memory in sight, else with what its operands lead to, else with all that is seen of it. -/
def evalD (st : Stp) (orc : List (Nat × Orc)) (ops : List Oper) (L : LL) (H : HL) (nx : Nat) (o : Oper) : Option (Eff × List Nat × HL) :=
  match stepG st orc ops L [] nx o with
  | some E => some (E, [], [])
  | none => match allOf orc o with
    | true => match stepG st orc ops L H nx o with
      | some E => some (E, keysL H, H)
      | none => none
    | false => match nearOf orc o with
    | true => fNs (nsL L) fun ns => fSel ns H fun Hs => match stepG st orc ops L Hs nx o with
      | some E => some (E, ns, Hs)
      | none => none
    | false => fNs (nsL L) fun n0 => fNs (reachH H n0 n0) fun n1 => fNs (reachH H n1 n1) fun ns => fSel ns H fun Hs => match stepG st orc ops L Hs nx o with
      | some E => some (E, ns, Hs)
      | none => match stepG st orc ops L H nx o with
        | some E => some (E, keysL H, H)
        | none => none
def drawR {R : Type} (st : Stp) (orc : List (Nat × Orc)) (N : Nat) (ops : List Oper) (nx0 : Nat) : List Oper → Nat → LX → HX → Nat → List (Nat × Rc) → List Prop → (LX → HX → Nat → List Prop → R) → R → R
  | [], _, X, H, nx, _, ps, f, _ => f X H nx ps
  | o :: l, j, X, H, nx, rs, ps, f, g => ancE rs o.after.toList 0 (span 0 nx0) (fun an am0 =>
      match evalD st orc ops (visL an X (readsOf ops o)) (visH an H) nx o with
      | some (⟨v, news, upd, obs⟩, us, Hu) => fNs us fun us => lenK news fun k => fN (Nat.lor am0 (span nx k)) fun am => match Eff.chkD ⟨v, news, upd, obs⟩ N am an Hu rs o.dst with
        | true => fSV v fun v => addNX j nx news H fun nx' H' => addUX j upd H' fun H'' => fPs (app obs ps) fun ps => match o.dst with
          | some d => drawR st orc N ops nx0 l (j + 1) ((d, v, j + 1) :: X) H'' nx' ((j, ⟨o, ⟨v, news, upd, obs⟩, nx, an, am, us, readsOf ops o⟩) :: rs) ps f g
          | none => drawR st orc N ops nx0 l (j + 1) X H'' nx' ((j, ⟨o, ⟨v, news, upd, obs⟩, nx, an, am, us, readsOf ops o⟩) :: rs) ps f g
        | false => g
      | none => g) g
end Vc
