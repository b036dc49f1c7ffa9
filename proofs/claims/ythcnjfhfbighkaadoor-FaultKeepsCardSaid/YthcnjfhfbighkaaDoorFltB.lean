/- errors.As and errors.Is walked at chains of errors of this program. -/
import Derived.Test.YthcnjfhfbighkaaDoorFltA
namespace Cw
open Go Go.Proofs Go.RowKit Go.Extern.Stop Go.Stop Go.Extern
set_option maxRecDepth 100000
theorem fb_cell {w : World} {b : Nat} {cs : Array Value} {T : TypeId} (h : w.heap[b]? = some (.cells cs T (0, 0))) (j : Nat) : w.cell? ⟨b, j, none⟩ = cs[j]? := by
  simp [World.cell?, h]
theorem evV_fail (c : Int) (x : Nat × ByteArray × Int) (l : List (Nat × ByteArray × Int)) : evV c (x :: l) = .iface 51 (.pointer (some ⟨x.1, 0, none⟩)) := rfl
theorem evV_code {c : Int} (hc : c ≠ 0) : evV c [] = .iface 22 (.int .i64 c) := if_neg hc
theorem evV_len {c : Int} (hc : c ≠ 0) {w : World} : ∀ {l l' : List (Nat × ByteArray × Int)}, chainOk w c l → chainOk w c l' → evV c l = evV c l' → l.length = l'.length
  | [], [], _, _, _ => rfl
  | [], y :: l', _, _, h => by rw [evV_code hc, evV_fail] at h; cases h
  | x :: l, [], _, _, h => by rw [evV_code hc, evV_fail] at h; cases h
  | x :: l, y :: l', h1, h2, h => by
    rw [evV_fail, evV_fail] at h
    have hxy : x.1 = y.1 := by injection h with _ h; injection h with h; injection h with h; injection h
    have e1 := h1.1
    rw [hxy, h2.1] at e1
    have e2 : evV c l = evV c l' := by
      have := congrArg (fun o : Option Obj => match o with | some (.cells cs _ _) => cs[2]? | _ => none) e1
      simpa using this.symm
    simp [evV_len hc h1.2 h2.2 e2]
open Classical in
noncomputable def chLen (w : World) (c : Int) (v : Value) : Nat := if h : ∃ l, chainOk w c l ∧ v = evV c l then (Classical.choose h).length else 0
theorem chLen_eq {w : World} {c : Int} (hc : c ≠ 0) {l : List (Nat × ByteArray × Int)} (h : chainOk w c l) : chLen w c (evV c l) = l.length := by
  have hx : ∃ l', chainOk w c l' ∧ evV c l = evV c l' := ⟨l, h, rfl⟩
  rw [chLen, dif_pos hx]
  exact (evV_len hc h (Classical.choose_spec hx).1 (Classical.choose_spec hx).2).symm
/-- (*api.Fail).Unwrap. -/
theorem unwrap_any (b : Nat) (s : ByteArray) (a : Int) (u : Value) (w : World) (h : w.heap[b]? = some (.cells #[.string s, .int .i64 a, u] 53 (0, 0))) :
    Calls Tryd.prog 48 #[.pointer (some ⟨b, 0, none⟩)] w fun e w' => e = .returned u ∧ w' = w := by
  have h2 := fb_cell h 2
  simp only [Array.getElem?_eq_getElem, List.getElem?_toArray] at h2
  go_enter Tryd.func48, Tryd.ntmps48
  go_wp2_with fail
  go_ret
  exact ⟨rfl, rfl⟩
theorem evV_ifc {c : Int} (hc : c ≠ 0) (l : List (Nat × ByteArray × Int)) : ∃ t v, evV c l = .iface t v := by
  cases l with
  | nil => exact ⟨_, _, evV_code hc⟩
  | cons x l => exact ⟨_, _, rfl⟩
set_option maxRecDepth 100000 in
set_option maxHeartbeats 8000000 in
/-- errors.as at a chain that ends in a number, the target a number. -/
theorem as_code {c : Int} (hc : c ≠ 0) (l : List (Nat × ByteArray × Int)) (w : World) (hl : chainOk w c l) (t q : Nat) (old : Value) (hv : w.cell? ⟨q, 0, none⟩ = some (.pointer (some ⟨t, 0, none⟩))) (ht : w.cell? ⟨t, 0, none⟩ = some old) (hf : w.frozen? ⟨t, 0, none⟩ = false) (hq : q < w.heap.size) (hts : t < w.heap.size) :
    Calls Tryd.prog 26 #[evV c l, .iface 57 (.pointer (some ⟨t, 0, none⟩)), .agg #[.pointer (some ⟨1, 57, none⟩), .pointer (some ⟨q, 0, none⟩), .int .u64 150], .iface 73 (.agg #[.pointer (some ⟨1, 22, none⟩)])] w
      fun e w' => e = .returned (.bool true) ∧ ∃ w1, Below w.heap.size w w1 ∧ w' = w1.setCell ⟨t, 0, none⟩ (.int .i64 c) := by
  have h21 := @run_callFunc_extern Tryd.prog 21 _ ReflectliteType.typeOf Tryd.func21 (by kernel_rfl) (by kernel_rfl) (by kernel_rfl) (by kernel_rfl)
  have h53 := @run_callFunc_extern Tryd.prog 53 _ (ReflectliteType.relation "AssignableTo" ReflectliteType.assignableTo) Tryd.func53 (by kernel_rfl) (by kernel_rfl) (by kernel_rfl) (by kernel_rfl)
  have h27 := @run_callFunc_extern Tryd.prog 27 _ (ReflectliteValue.method (ReflectliteValue.valueError "reflectlite.Value.Elem" 0) ReflectliteValue.elem) Tryd.func27 (by kernel_rfl) (by kernel_rfl) (by kernel_rfl) (by kernel_rfl)
  have h23 := @run_callFunc_extern Tryd.prog 23 _ (fun args => ReflectliteValue.unpack (args.getD 0 (.tuple #[]))) Tryd.func23 (by kernel_rfl) (by kernel_rfl) (by kernel_rfl) (by kernel_rfl)
  have h28 := @run_callFunc_extern Tryd.prog 28 _ ReflectliteValue.set Tryd.func28 (by kernel_rfl) (by kernel_rfl) (by kernel_rfl) (by kernel_rfl)
  have tC := fr_typeOfC
  have tF := fr_typeOfF
  have mA := fr_mAssignableTo
  have aCC := fr_asgCC
  have aFC := fr_asgFC
  have xF := fr_aAsF
  have yF := fr_aUwF
  have mU := fr_mUnwrap
  have vC := fr_valueOfC
  have hB := Below.alloc (Below.refl w.heap.size w) (Nat.le_refl _) (.cells #[.pointer (some ⟨1, 57, none⟩), .pointer (some ⟨q, 0, none⟩), .int .u64 150] 65)
  have hl0 := hl.below hB
  have hv0 := (hB.cell (p := ⟨q, 0, none⟩) hq).trans hv
  have ht0 := (hB.cell (p := ⟨t, 0, none⟩) hts).trans ht
  have hf0 := (hB.frozen (p := ⟨t, 0, none⟩) hts).trans hf
  have hbx := fun j => fb_cell (heap_alloc_new w (.cells #[.pointer (some ⟨1, 57, none⟩), .pointer (some ⟨q, 0, none⟩), .int .u64 150] 65)) j
  have hsz : w.heap.size < (w.alloc (.cells #[.pointer (some ⟨1, 57, none⟩), .pointer (some ⟨q, 0, none⟩), .int .u64 150] 65)).heap.size := by simp
  go_enter Tryd.func26, Tryd.ntmps26
  go_wp2_with fail
  generalize hw0 : w.alloc (.cells #[.pointer (some ⟨1, 57, none⟩), .pointer (some ⟨q, 0, none⟩), .int .u64 150] 65) = w0 at *
  go_loop [0] (fun v => ∃ l', chainOk w0 c l' ∧ v = evV c l') (fun v => chLen w0 c v)
  case atStart => exact ⟨l, hl0, rfl⟩
  case round =>
    obtain ⟨l', hl', rfl⟩ := hrel
    cases l' with
    | nil =>
      rw [evV_code hc] at *
      have eV := fr_elemVPC ⟨q, 0, none⟩ ⟨t, 0, none⟩ w0 hv0
      have sC := fr_setC ⟨t, 0, none⟩ ⟨w0.heap.size, 0, none⟩ c old (w0.alloc (.cells #[.int .i64 c] 22)) (fb_cell (heap_alloc_new w0 _) 0) (((Below.alloc (Below.refl w0.heap.size w0) (Nat.le_refl _) _).cell (p := ⟨t, 0, none⟩) (Nat.lt_trans hts hsz)).trans ht0) (((Below.alloc (Below.refl w0.heap.size w0) (Nat.le_refl _) _).frozen (p := ⟨t, 0, none⟩) (Nat.lt_trans hts hsz)).trans hf0)
      go_wp2_with fail
      go_ret
      exact ⟨rfl, _, below_step (Below.alloc (Below.refl w0.heap.size w0) (Nat.le_refl _) _) (Nat.le_of_lt hsz) hB, rfl⟩
    | cons x l' =>
      have hu := unwrap_any x.1 x.2.1 x.2.2 (evV c l') _ hl'.1
      have hm := chLen_eq hc hl'
      have hm2 := chLen_eq hc hl'.2
      rw [evV_fail]
      rw [evV_fail] at hm
      obtain ⟨tt, vv, htv⟩ := evV_ifc hc l'
      have hl2 := hl'.2
      have hx := Lib.hid (And.intro htv (And.intro hm hm2))
      rw [htv] at hu
      clear hm hm2 hl' htv
      go_wp2_with (go_at_call 48; refine hu.mono ?_; rintro e w1 ⟨rfl, rfl⟩)
      obtain ⟨e1, e2, e3⟩ := hx.out
      refine ⟨⟨l', hl2, e1.symm⟩, ?_⟩
      rw [e1] at e3
      rw [e3, e2]
      simp
set_option maxRecDepth 100000 in
set_option maxHeartbeats 8000000 in
/-- errors.as at a step, the target a step. -/
theorem as_fhit (b : Nat) (w : World) (t q : Nat) (old : Value) (hv : w.cell? ⟨q, 0, none⟩ = some (.pointer (some ⟨t, 0, none⟩))) (ht : w.cell? ⟨t, 0, none⟩ = some old) (hf : w.frozen? ⟨t, 0, none⟩ = false) (hq : q < w.heap.size) (hts : t < w.heap.size) :
    Calls Tryd.prog 26 #[.iface 51 (.pointer (some ⟨b, 0, none⟩)), .iface 56 (.pointer (some ⟨t, 0, none⟩)), .agg #[.pointer (some ⟨1, 56, none⟩), .pointer (some ⟨q, 0, none⟩), .int .u64 150], .iface 73 (.agg #[.pointer (some ⟨1, 51, none⟩)])] w
      fun e w' => e = .returned (.bool true) ∧ ∃ w1, Below w.heap.size w w1 ∧ w' = w1.setCell ⟨t, 0, none⟩ (.pointer (some ⟨b, 0, none⟩)) := by
  have h21 := @run_callFunc_extern Tryd.prog 21 _ ReflectliteType.typeOf Tryd.func21 (by kernel_rfl) (by kernel_rfl) (by kernel_rfl) (by kernel_rfl)
  have h53 := @run_callFunc_extern Tryd.prog 53 _ (ReflectliteType.relation "AssignableTo" ReflectliteType.assignableTo) Tryd.func53 (by kernel_rfl) (by kernel_rfl) (by kernel_rfl) (by kernel_rfl)
  have h27 := @run_callFunc_extern Tryd.prog 27 _ (ReflectliteValue.method (ReflectliteValue.valueError "reflectlite.Value.Elem" 0) ReflectliteValue.elem) Tryd.func27 (by kernel_rfl) (by kernel_rfl) (by kernel_rfl) (by kernel_rfl)
  have h23 := @run_callFunc_extern Tryd.prog 23 _ (fun args => ReflectliteValue.unpack (args.getD 0 (.tuple #[]))) Tryd.func23 (by kernel_rfl) (by kernel_rfl) (by kernel_rfl) (by kernel_rfl)
  have h28 := @run_callFunc_extern Tryd.prog 28 _ ReflectliteValue.set Tryd.func28 (by kernel_rfl) (by kernel_rfl) (by kernel_rfl) (by kernel_rfl)
  have tF := fr_typeOfF
  have mA := fr_mAssignableTo
  have aFF := fr_asgFF
  have vF := fr_valueOfF
  have hB := Below.alloc (Below.refl w.heap.size w) (Nat.le_refl _) (.cells #[.pointer (some ⟨1, 56, none⟩), .pointer (some ⟨q, 0, none⟩), .int .u64 150] 65)
  have hv0 := (hB.cell (p := ⟨q, 0, none⟩) hq).trans hv
  have ht0 := (hB.cell (p := ⟨t, 0, none⟩) hts).trans ht
  have hf0 := (hB.frozen (p := ⟨t, 0, none⟩) hts).trans hf
  have hbx := fun j => fb_cell (heap_alloc_new w (.cells #[.pointer (some ⟨1, 56, none⟩), .pointer (some ⟨q, 0, none⟩), .int .u64 150] 65)) j
  have hsz : w.heap.size < (w.alloc (.cells #[.pointer (some ⟨1, 56, none⟩), .pointer (some ⟨q, 0, none⟩), .int .u64 150] 65)).heap.size := by simp
  go_enter Tryd.func26, Tryd.ntmps26
  go_wp2_with fail
  generalize hw0 : w.alloc (.cells #[.pointer (some ⟨1, 56, none⟩), .pointer (some ⟨q, 0, none⟩), .int .u64 150] 65) = w0 at *
  have eV := fr_elemVPF ⟨q, 0, none⟩ ⟨t, 0, none⟩ w0 hv0
  have sC := fr_setF ⟨t, 0, none⟩ ⟨w0.heap.size, 0, none⟩ ⟨b, 0, none⟩ old (w0.alloc (.cells #[.pointer (some ⟨b, 0, none⟩)] 51)) (fb_cell (heap_alloc_new w0 _) 0) (((Below.alloc (Below.refl w0.heap.size w0) (Nat.le_refl _) _).cell (p := ⟨t, 0, none⟩) (Nat.lt_trans hts hsz)).trans ht0) (((Below.alloc (Below.refl w0.heap.size w0) (Nat.le_refl _) _).frozen (p := ⟨t, 0, none⟩) (Nat.lt_trans hts hsz)).trans hf0)
  refine wp_loop_rounds 1 ?_
  rw [rounds_succ]
  go_wp2_with fail
  go_ret
  exact ⟨rfl, _, below_step (Below.alloc (Below.refl w0.heap.size w0) (Nat.le_refl _) _) (Nat.le_of_lt hsz) hB, rfl⟩
set_option maxRecDepth 100000 in
set_option maxHeartbeats 8000000 in
/-- errors.as at a number, the target a step. -/
theorem as_fmiss (c : Int) (w : World) (t q : Nat) :
    Calls Tryd.prog 26 #[.iface 22 (.int .i64 c), .iface 56 (.pointer (some ⟨t, 0, none⟩)), .agg #[.pointer (some ⟨1, 56, none⟩), .pointer (some ⟨q, 0, none⟩), .int .u64 150], .iface 73 (.agg #[.pointer (some ⟨1, 51, none⟩)])] w
      fun e w' => e = .returned (.bool false) ∧ Below w.heap.size w w' := by
  have h21 := @run_callFunc_extern Tryd.prog 21 _ ReflectliteType.typeOf Tryd.func21 (by kernel_rfl) (by kernel_rfl) (by kernel_rfl) (by kernel_rfl)
  have h53 := @run_callFunc_extern Tryd.prog 53 _ (ReflectliteType.relation "AssignableTo" ReflectliteType.assignableTo) Tryd.func53 (by kernel_rfl) (by kernel_rfl) (by kernel_rfl) (by kernel_rfl)
  have tC := fr_typeOfC
  have mA := fr_mAssignableTo
  have aCF := fr_asgCF
  have xC := fr_aAsC
  have yC := fr_aUwC
  have zC := fr_aUsC
  have hB := Below.alloc (Below.refl w.heap.size w) (Nat.le_refl _) (.cells #[.pointer (some ⟨1, 56, none⟩), .pointer (some ⟨q, 0, none⟩), .int .u64 150] 65)
  go_enter Tryd.func26, Tryd.ntmps26
  go_wp2_with fail
  generalize hw0 : w.alloc (.cells #[.pointer (some ⟨1, 56, none⟩), .pointer (some ⟨q, 0, none⟩), .int .u64 150] 65) = w0 at *
  refine wp_loop_rounds 1 ?_
  rw [rounds_succ]
  go_wp2_with fail
  go_ret
  exact ⟨rfl, hB⟩
set_option maxRecDepth 100000 in
set_option maxHeartbeats 8000000 in
/-- errors.As: the number. -/
theorem As_code {c : Int} (hc : c ≠ 0) (l : List (Nat × ByteArray × Int)) (w : World) (t : Nat) (old : Value) (hg : w.cell? ⟨0, 0, none⟩ = some (.iface 73 (.agg #[.pointer (some ⟨1, 25, none⟩)]))) (ht : w.cell? ⟨t, 0, none⟩ = some old) (hf : w.frozen? ⟨t, 0, none⟩ = false) (hts : t < w.heap.size) (hl : chainOk w c l) :
    Calls Tryd.prog 20 #[evV c l, .iface 57 (.pointer (some ⟨t, 0, none⟩))] w
      fun e w' => e = .returned (.bool true) ∧ ∃ w1, Below w.heap.size w w1 ∧ w' = w1.setCell ⟨t, 0, none⟩ (.int .i64 c) := by
  have h23 := @run_callFunc_extern Tryd.prog 23 _ (fun args => ReflectliteValue.unpack (args.getD 0 (.tuple #[]))) Tryd.func23 (by kernel_rfl) (by kernel_rfl) (by kernel_rfl) (by kernel_rfl)
  have h24 := @run_callFunc_extern Tryd.prog 24 _ (ReflectliteValue.methodAny (ReflectliteValue.valueError "reflectlite.Value.Type" 0) (fun t _ _ _ => ReflectliteType.toType t)) Tryd.func24 (by kernel_rfl) (by kernel_rfl) (by kernel_rfl) (by kernel_rfl)
  have h25 := @run_callFunc_extern Tryd.prog 25 _ (ReflectliteValue.method (ReflectliteValue.valueError "reflectlite.Value.IsNil" 0) ReflectliteValue.isNil) Tryd.func25 (by kernel_rfl) (by kernel_rfl) (by kernel_rfl) (by kernel_rfl)
  have h43 := @run_callFunc_extern Tryd.prog 43 _ (ReflectliteType.abiMethod fun t => do pure (.int .u8 (← Rtype.kind t))) Tryd.func43 (by kernel_rfl) (by kernel_rfl) (by kernel_rfl) (by kernel_rfl)
  have h55 := @run_callFunc_extern Tryd.prog 55 _ (ReflectliteType.method ReflectliteType.elem) Tryd.func55 (by kernel_rfl) (by kernel_rfl) (by kernel_rfl) (by kernel_rfl)
  have h56 := @run_callFunc_extern Tryd.prog 56 _ (ReflectliteType.relation "Implements" ReflectliteType.implements_) Tryd.func56 (by kernel_rfl) (by kernel_rfl) (by kernel_rfl) (by kernel_rfl)
  have fV := fr_valueOfPC
  have fT := fr_typePC
  have mK := fr_mKind
  have mE := fr_mElem
  have mI := fr_mImplements
  have kP := fr_kindPC
  have kE := fr_kindC
  have eP := fr_elemPC
  have iE := fr_implC
  have h0 : 0 < w.heap.size := by
    rcases Nat.eq_zero_or_pos w.heap.size with h | h
    · simp [World.cell?, h] at hg
    · exact h
  have hB := Below.alloc (Below.alloc (Below.refl w.heap.size w) (Nat.le_refl _) (.cells #[.pointer (some ⟨t, 0, none⟩)] 57)) (by simp) (.cells #[.pointer (some ⟨1, 57, none⟩), .pointer (some ⟨w.heap.size, 0, none⟩), .int .u64 150] 65)
  have hq : ((w.alloc (.cells #[.pointer (some ⟨t, 0, none⟩)] 57)).alloc (.cells #[.pointer (some ⟨1, 57, none⟩), .pointer (some ⟨w.heap.size, 0, none⟩), .int .u64 150] 65)).cell? ⟨w.heap.size, 0, none⟩ = some (.pointer (some ⟨t, 0, none⟩)) := by
    rw [World.cell?_alloc_lt _ _ ⟨w.heap.size, 0, none⟩ (by simp)]
    exact fb_cell (heap_alloc_new w _) 0
  have hn := fr_isNilPC ⟨w.heap.size, 0, none⟩ ⟨t, 0, none⟩ ((w.alloc (.cells #[.pointer (some ⟨t, 0, none⟩)] 57)).alloc (.cells #[.pointer (some ⟨1, 57, none⟩), .pointer (some ⟨w.heap.size, 0, none⟩), .int .u64 150] 65)) hq
  have hg2 := (hB.cell (p := ⟨0, 0, none⟩) h0).trans hg
  have hbx := fun j => fb_cell (heap_alloc_new (w.alloc (.cells #[.pointer (some ⟨t, 0, none⟩)] 57)) (.cells #[.pointer (some ⟨1, 57, none⟩), .pointer (some ⟨w.heap.size, 0, none⟩), .int .u64 150] 65)) j
  have hs1 : (w.alloc (.cells #[.pointer (some ⟨t, 0, none⟩)] 57)).heap.size = w.heap.size + 1 := by simp
  have hsz : ((w.alloc (.cells #[.pointer (some ⟨t, 0, none⟩)] 57)).alloc (.cells #[.pointer (some ⟨1, 57, none⟩), .pointer (some ⟨w.heap.size, 0, none⟩), .int .u64 150] 65)).heap.size = w.heap.size + 2 := by simp
  have ht2 := (hB.cell (p := ⟨t, 0, none⟩) hts).trans ht
  have hf2 := (hB.frozen (p := ⟨t, 0, none⟩) hts).trans hf
  rw [hs1] at hbx
  have hl2 := hl.below hB
  obtain ⟨tt, vv, htv⟩ := evV_ifc hc l
  have ha := as_code hc l _ hl2 t w.heap.size old hq ht2 hf2 (by rw [hsz]; omega) (by rw [hsz]; omega)
  rw [htv] at ha ⊢
  have ha := Lib.hid ha
  clear htv hl2 hl ht2 hf2 hq
  go_enter Tryd.func20, Tryd.ntmps20
  go_wp2_with (go_at_call 26; refine ha.out.mono ?_; rintro e w3 ⟨rfl, w4, hb, rfl⟩)
  go_ret
  exact ⟨rfl, w4, below_step hb (by rw [hsz]; omega) hB, rfl⟩
set_option maxRecDepth 100000 in
set_option maxHeartbeats 8000000 in
/-- errors.As: a step. -/
theorem As_fhit (b : Nat) (w : World) (t : Nat) (old : Value) (hg : w.cell? ⟨0, 0, none⟩ = some (.iface 73 (.agg #[.pointer (some ⟨1, 25, none⟩)]))) (ht : w.cell? ⟨t, 0, none⟩ = some old) (hf : w.frozen? ⟨t, 0, none⟩ = false) (hts : t < w.heap.size) :
    Calls Tryd.prog 20 #[.iface 51 (.pointer (some ⟨b, 0, none⟩)), .iface 56 (.pointer (some ⟨t, 0, none⟩))] w
      fun e w' => e = .returned (.bool true) ∧ ∃ w1, Below w.heap.size w w1 ∧ w' = w1.setCell ⟨t, 0, none⟩ (.pointer (some ⟨b, 0, none⟩)) := by
  have h23 := @run_callFunc_extern Tryd.prog 23 _ (fun args => ReflectliteValue.unpack (args.getD 0 (.tuple #[]))) Tryd.func23 (by kernel_rfl) (by kernel_rfl) (by kernel_rfl) (by kernel_rfl)
  have h24 := @run_callFunc_extern Tryd.prog 24 _ (ReflectliteValue.methodAny (ReflectliteValue.valueError "reflectlite.Value.Type" 0) (fun t _ _ _ => ReflectliteType.toType t)) Tryd.func24 (by kernel_rfl) (by kernel_rfl) (by kernel_rfl) (by kernel_rfl)
  have h25 := @run_callFunc_extern Tryd.prog 25 _ (ReflectliteValue.method (ReflectliteValue.valueError "reflectlite.Value.IsNil" 0) ReflectliteValue.isNil) Tryd.func25 (by kernel_rfl) (by kernel_rfl) (by kernel_rfl) (by kernel_rfl)
  have h43 := @run_callFunc_extern Tryd.prog 43 _ (ReflectliteType.abiMethod fun t => do pure (.int .u8 (← Rtype.kind t))) Tryd.func43 (by kernel_rfl) (by kernel_rfl) (by kernel_rfl) (by kernel_rfl)
  have h55 := @run_callFunc_extern Tryd.prog 55 _ (ReflectliteType.method ReflectliteType.elem) Tryd.func55 (by kernel_rfl) (by kernel_rfl) (by kernel_rfl) (by kernel_rfl)
  have h56 := @run_callFunc_extern Tryd.prog 56 _ (ReflectliteType.relation "Implements" ReflectliteType.implements_) Tryd.func56 (by kernel_rfl) (by kernel_rfl) (by kernel_rfl) (by kernel_rfl)
  have fV := fr_valueOfPF
  have fT := fr_typePF
  have mK := fr_mKind
  have mE := fr_mElem
  have mI := fr_mImplements
  have kP := fr_kindPF
  have kE := fr_kindF
  have eP := fr_elemPF
  have iE := fr_implF
  have h0 : 0 < w.heap.size := by
    rcases Nat.eq_zero_or_pos w.heap.size with h | h
    · simp [World.cell?, h] at hg
    · exact h
  have hB := Below.alloc (Below.alloc (Below.refl w.heap.size w) (Nat.le_refl _) (.cells #[.pointer (some ⟨t, 0, none⟩)] 56)) (by simp) (.cells #[.pointer (some ⟨1, 56, none⟩), .pointer (some ⟨w.heap.size, 0, none⟩), .int .u64 150] 65)
  have hq : ((w.alloc (.cells #[.pointer (some ⟨t, 0, none⟩)] 56)).alloc (.cells #[.pointer (some ⟨1, 56, none⟩), .pointer (some ⟨w.heap.size, 0, none⟩), .int .u64 150] 65)).cell? ⟨w.heap.size, 0, none⟩ = some (.pointer (some ⟨t, 0, none⟩)) := by
    rw [World.cell?_alloc_lt _ _ ⟨w.heap.size, 0, none⟩ (by simp)]
    exact fb_cell (heap_alloc_new w _) 0
  have hn := fr_isNilPF ⟨w.heap.size, 0, none⟩ ⟨t, 0, none⟩ ((w.alloc (.cells #[.pointer (some ⟨t, 0, none⟩)] 56)).alloc (.cells #[.pointer (some ⟨1, 56, none⟩), .pointer (some ⟨w.heap.size, 0, none⟩), .int .u64 150] 65)) hq
  have hg2 := (hB.cell (p := ⟨0, 0, none⟩) h0).trans hg
  have hbx := fun j => fb_cell (heap_alloc_new (w.alloc (.cells #[.pointer (some ⟨t, 0, none⟩)] 56)) (.cells #[.pointer (some ⟨1, 56, none⟩), .pointer (some ⟨w.heap.size, 0, none⟩), .int .u64 150] 65)) j
  have hs1 : (w.alloc (.cells #[.pointer (some ⟨t, 0, none⟩)] 56)).heap.size = w.heap.size + 1 := by simp
  have hsz : ((w.alloc (.cells #[.pointer (some ⟨t, 0, none⟩)] 56)).alloc (.cells #[.pointer (some ⟨1, 56, none⟩), .pointer (some ⟨w.heap.size, 0, none⟩), .int .u64 150] 65)).heap.size = w.heap.size + 2 := by simp
  have ht2 := (hB.cell (p := ⟨t, 0, none⟩) hts).trans ht
  have hf2 := (hB.frozen (p := ⟨t, 0, none⟩) hts).trans hf
  rw [hs1] at hbx
  have ha := Lib.hid (as_fhit b _ t w.heap.size old hq ht2 hf2 (by rw [hsz]; omega) (by rw [hsz]; omega))
  clear ht2 hf2 hq
  go_enter Tryd.func20, Tryd.ntmps20
  go_wp2_with (go_at_call 26; refine ha.out.mono ?_; rintro e w3 ⟨rfl, w4, hb, rfl⟩)
  go_ret
  exact ⟨rfl, w4, below_step hb (by rw [hsz]; omega) hB, rfl⟩
set_option maxRecDepth 100000 in
set_option maxHeartbeats 8000000 in
/-- errors.As: no step. -/
theorem As_fmiss (c : Int) (w : World) (t : Nat) (old : Value) (hg : w.cell? ⟨0, 0, none⟩ = some (.iface 73 (.agg #[.pointer (some ⟨1, 25, none⟩)]))) (ht : w.cell? ⟨t, 0, none⟩ = some old) (hf : w.frozen? ⟨t, 0, none⟩ = false) (hts : t < w.heap.size) :
    Calls Tryd.prog 20 #[.iface 22 (.int .i64 c), .iface 56 (.pointer (some ⟨t, 0, none⟩))] w
      fun e w' => e = .returned (.bool false) ∧ Below w.heap.size w w' := by
  have h23 := @run_callFunc_extern Tryd.prog 23 _ (fun args => ReflectliteValue.unpack (args.getD 0 (.tuple #[]))) Tryd.func23 (by kernel_rfl) (by kernel_rfl) (by kernel_rfl) (by kernel_rfl)
  have h24 := @run_callFunc_extern Tryd.prog 24 _ (ReflectliteValue.methodAny (ReflectliteValue.valueError "reflectlite.Value.Type" 0) (fun t _ _ _ => ReflectliteType.toType t)) Tryd.func24 (by kernel_rfl) (by kernel_rfl) (by kernel_rfl) (by kernel_rfl)
  have h25 := @run_callFunc_extern Tryd.prog 25 _ (ReflectliteValue.method (ReflectliteValue.valueError "reflectlite.Value.IsNil" 0) ReflectliteValue.isNil) Tryd.func25 (by kernel_rfl) (by kernel_rfl) (by kernel_rfl) (by kernel_rfl)
  have h43 := @run_callFunc_extern Tryd.prog 43 _ (ReflectliteType.abiMethod fun t => do pure (.int .u8 (← Rtype.kind t))) Tryd.func43 (by kernel_rfl) (by kernel_rfl) (by kernel_rfl) (by kernel_rfl)
  have h55 := @run_callFunc_extern Tryd.prog 55 _ (ReflectliteType.method ReflectliteType.elem) Tryd.func55 (by kernel_rfl) (by kernel_rfl) (by kernel_rfl) (by kernel_rfl)
  have h56 := @run_callFunc_extern Tryd.prog 56 _ (ReflectliteType.relation "Implements" ReflectliteType.implements_) Tryd.func56 (by kernel_rfl) (by kernel_rfl) (by kernel_rfl) (by kernel_rfl)
  have fV := fr_valueOfPF
  have fT := fr_typePF
  have mK := fr_mKind
  have mE := fr_mElem
  have mI := fr_mImplements
  have kP := fr_kindPF
  have kE := fr_kindF
  have eP := fr_elemPF
  have iE := fr_implF
  have h0 : 0 < w.heap.size := by
    rcases Nat.eq_zero_or_pos w.heap.size with h | h
    · simp [World.cell?, h] at hg
    · exact h
  have hB := Below.alloc (Below.alloc (Below.refl w.heap.size w) (Nat.le_refl _) (.cells #[.pointer (some ⟨t, 0, none⟩)] 56)) (by simp) (.cells #[.pointer (some ⟨1, 56, none⟩), .pointer (some ⟨w.heap.size, 0, none⟩), .int .u64 150] 65)
  have hq : ((w.alloc (.cells #[.pointer (some ⟨t, 0, none⟩)] 56)).alloc (.cells #[.pointer (some ⟨1, 56, none⟩), .pointer (some ⟨w.heap.size, 0, none⟩), .int .u64 150] 65)).cell? ⟨w.heap.size, 0, none⟩ = some (.pointer (some ⟨t, 0, none⟩)) := by
    rw [World.cell?_alloc_lt _ _ ⟨w.heap.size, 0, none⟩ (by simp)]
    exact fb_cell (heap_alloc_new w _) 0
  have hn := fr_isNilPF ⟨w.heap.size, 0, none⟩ ⟨t, 0, none⟩ ((w.alloc (.cells #[.pointer (some ⟨t, 0, none⟩)] 56)).alloc (.cells #[.pointer (some ⟨1, 56, none⟩), .pointer (some ⟨w.heap.size, 0, none⟩), .int .u64 150] 65)) hq
  have hg2 := (hB.cell (p := ⟨0, 0, none⟩) h0).trans hg
  have hbx := fun j => fb_cell (heap_alloc_new (w.alloc (.cells #[.pointer (some ⟨t, 0, none⟩)] 56)) (.cells #[.pointer (some ⟨1, 56, none⟩), .pointer (some ⟨w.heap.size, 0, none⟩), .int .u64 150] 65)) j
  have hs1 : (w.alloc (.cells #[.pointer (some ⟨t, 0, none⟩)] 56)).heap.size = w.heap.size + 1 := by simp
  have hsz : ((w.alloc (.cells #[.pointer (some ⟨t, 0, none⟩)] 56)).alloc (.cells #[.pointer (some ⟨1, 56, none⟩), .pointer (some ⟨w.heap.size, 0, none⟩), .int .u64 150] 65)).heap.size = w.heap.size + 2 := by simp
  have ht2 := (hB.cell (p := ⟨t, 0, none⟩) hts).trans ht
  have hf2 := (hB.frozen (p := ⟨t, 0, none⟩) hts).trans hf
  rw [hs1] at hbx
  have ha := Lib.hid (as_fmiss c ((w.alloc (.cells #[.pointer (some ⟨t, 0, none⟩)] 56)).alloc (.cells #[.pointer (some ⟨1, 56, none⟩), .pointer (some ⟨w.heap.size, 0, none⟩), .int .u64 150] 65)) t w.heap.size)
  clear ht2 hf2 hq
  go_enter Tryd.func20, Tryd.ntmps20
  go_wp2_with (go_at_call 26; refine ha.out.mono ?_; rintro e w3 ⟨rfl, hb⟩)
  go_ret
  exact ⟨rfl, below_step hb (by rw [hsz]; omega) hB⟩
/-- errors.As of no error. -/
theorem As_nil (v : Value) (w : World) : Calls Tryd.prog 20 #[.nilIface, v] w fun e w' => e = .returned (.bool false) ∧ Below w.heap.size w w' := by
  go_enter Tryd.func20, Tryd.ntmps20
  go_wp2_with fail
  go_ret
  exact ⟨rfl, Below.refl _ _⟩
theorem fr_eqCF (x : Nat × ByteArray × Int) (d : Int) (w : World) : (binOp .eql 25 (.iface 51 (.pointer (some ⟨x.1, 0, none⟩))) (.iface 22 (.int .i64 d))).run Tryd.prog w = .ok (.bool false) w :=
  run_eql_iface_types 51 22 _ _ Tryd.underlying25 (by decide) w
theorem fr_compC : (Tryd.prog.info? 22).map (·.comparable) = some true := by kernel_rfl
theorem fr_eqCC (c d : Int) (w : World) : (binOp .eql 25 (.iface 22 (.int .i64 c)) (.iface 22 (.int .i64 d))).run Tryd.prog w = .ok (.bool (c == d)) w := by
  obtain ⟨i, hi, hcmp⟩ := Option.map_eq_some_iff.1 fr_compC
  exact eq_ifc_int w c d Tryd.underlying25 Tryd.underlying22 hi hcmp
set_option maxRecDepth 100000 in
set_option maxHeartbeats 8000000 in
/-- errors.is at a chain that ends in a number, the target a number. -/
theorem is_any {c : Int} (hc : c ≠ 0) (d : Int) (l : List (Nat × ByteArray × Int)) (w : World) (hl : chainOk w c l) :
    Calls Tryd.prog 22 #[evV c l, .iface 22 (.int .i64 d), .bool true] w
      fun e w' => e = .returned (.bool (c == d)) ∧ Below w.heap.size w w' := by
  have xC := fr_aIsC
  have xF := fr_aIsF
  have yF := fr_aUwF
  have yC := fr_aUwC
  have zC := fr_aUsC
  have mU := fr_mUnwrap
  have qC := fr_eqCC
  have qF := fr_eqCF
  go_enter Tryd.func22, Tryd.ntmps22
  go_wp2_with fail
  go_loop [0] (fun v => ∃ l', chainOk w c l' ∧ v = evV c l') (fun v => chLen w c v)
  case atStart => exact ⟨l, hl, rfl⟩
  case round =>
    obtain ⟨l', hl', rfl⟩ := hrel
    cases l' with
    | nil =>
      rw [evV_code hc] at *
      cases hcd : c == d with
      | true =>
        have qT := (qC c d w).trans (by rw [hcd])
        have hh := Lib.hid hcd
        clear hcd qC
        go_wp2_with fail
        go_ret
        exact ⟨by rw [hh.out]; rfl, Below.refl _ _⟩
      | false =>
        have qT := (qC c d w).trans (by rw [hcd])
        have hh := Lib.hid hcd
        clear hcd qC
        go_wp2_with fail
        go_ret
        exact ⟨by rw [hh.out]; rfl, Below.refl _ _⟩
    | cons x l' =>
      have hu := unwrap_any x.1 x.2.1 x.2.2 (evV c l') _ hl'.1
      have hm := chLen_eq hc hl'
      have hm2 := chLen_eq hc hl'.2
      rw [evV_fail]
      rw [evV_fail] at hm
      obtain ⟨tt, vv, htv⟩ := evV_ifc hc l'
      have hl2 := hl'.2
      have hx := Lib.hid (And.intro htv (And.intro hm hm2))
      rw [htv] at hu
      clear hm hm2 hl' htv
      go_wp2_with (go_at_call 48; refine hu.mono ?_; rintro e w1 ⟨rfl, rfl⟩)
      obtain ⟨e1, e2, e3⟩ := hx.out
      refine ⟨⟨l', hl2, e1.symm⟩, ?_⟩
      rw [e1] at e3
      rw [e3, e2]
      simp
end Cw
