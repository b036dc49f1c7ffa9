/- The statements of deps: a sector goes on, by reckoning. -/
import Derived.Test.YtclcibpghonidaaGreatDoorDepN
namespace Cw
open Go Vc
open Go.Proofs
set_option maxRecDepth 100000
/-- A sector goes on. -/
def mvR (R : List Ch) (k : Int) (lost : Bool) : List Ch := if ofN R k 2 = [] then setN (rdyN R k) 2 R else if lost = true then setK k 1 R else setK k 0 R
theorem setF_get {p : Ch → Bool} {s : Int} {R : List Ch} {i : Nat} (h : i < (setF p s R).length) : ((setF p s R)[i]).at' = (R[i]'(by rw [setF_len] at h; exact h)).at' ∧ ((setF p s R)[i]).off = (R[i]'(by rw [setF_len] at h; exact h)).off ∧ ((setF p s R)[i]).by' = (R[i]'(by rw [setF_len] at h; exact h)).by' ∧ ((setF p s R)[i]).ah = (R[i]'(by rw [setF_len] at h; exact h)).ah := by
  simp only [setF, List.getElem_map]
  split <;> exact ⟨rfl, rfl, rfl, rfl⟩
theorem RunOk.set {x : RunSt} {R : List Ch} (ok : RunOk x R) {p : Ch → Bool} {s : Int} {V' : DV} {D' F' : List ByteArray} (hdr : DR V' x.W (setF p s R)) (hov : overOk (setF p s R)) (hdk : DkOk D' F' (setF p s R)) : RunOk { x with V := V', D := D', F := F' } (setF p s R) := by
  have hl := setF_len p s R
  refine ⟨hdr, hov, ok.ok.setF p s, hdk, by rw [hl]; exact ok.ql, by rw [hl]; exact ok.al, ok.aw, fun i h h' => ?_, fun i h h' n hn => ?_, ok.az⟩
  · obtain ⟨h1, h2, h3, _⟩ := setF_get h
    rw [h1, h2, h3]
    exact ok.q i (by rw [hl] at h; exact h) h'
  · obtain ⟨_, _, _, h4⟩ := setF_get h
    rw [h4]
    exact ok.a i (by rw [hl] at h; exact h) h' n hn
theorem RunOk.next {x : RunSt} {R R' : List Ch} (ok : RunOk x R) {V' : DV} (hdr : DR V' x.W R') (hR : R' = R) : RunOk { x with V := V' } R' := by
  subst hR
  exact ⟨hdr, ok.ov, ok.ok, ok.dk, ok.ql, ok.al, ok.aw, ok.q, ok.a, ok.az⟩
theorem RunOk.sent {x : RunSt} {R R' : List Ch} {k : Int} (ok : RunOk x R) {V' : DV} {F' : List ByteArray} (hdr : DR V' x.W R') (hR : R' = setN (rdyN R k) 2 R) (hdk : DkOk x.D F' (setN (rdyN R k) 2 R)) : RunOk { x with V := V', F := F' } R' := by
  subst hR
  exact ok.set hdr (ok.ov.send ok.dr.dep k) hdk
theorem RunOk.fly {x : RunSt} {R R' : List Ch} {k s : Int} (ok : RunOk x R) {V' : DV} {D' F' : List ByteArray} (hdr : DR V' x.W R') (hR : R' = setK k s R) (hdk : DkOk D' F' (setK k s R)) : RunOk { x with V := V', D := D', F := F' } R' := by
  subst hR
  exact ok.set hdr (ok.ov.fly k s) hdk
section
variable {H : HL} {nx d q b bd : Nat} {b1 : Bool} {R : List Ch}
end
end Cw
namespace Cw
open Go Vc
open Go.Proofs
set_option maxRecDepth 100000
theorem At.growP {P : Program} {F : Frm} {Q : Exit → Act → World → Prop} {cd : Code} {ks : List KI} {L : LL} {H : HL} {nx b : Nat} {V : DV} {W : List (List Int × Option Addr × Nat)} {R R' : List Ch} {at' o : Int} {t : ByteArray} {xs : List Int} (d q : Nat) (hd : lookH H d = some (true, .ab (adP V R.length b (newC (und R) R.length at' (o, t) xs)))) (hq : lookH H q = some (true, .ab (frzP W))) (hdq : d ≠ q) (hR : DR V W R)
    (he : adB R.length at' o t V.length xs = 0) (zx : xs.length + V.length ≤ 17592186044416) (zt : t.size ≤ 9223372036854775807) (zr : R.length < 100000) (hR' : R ++ [newC (und R) R.length at' (o, t) xs] = R')
    (h : ∀ V' W', DR V' W' R' → (∀ y ∈ W, y ∈ W') → At P F Q cd ks L ((q, some (true, .ab (frzP W'))) :: (d, some (true, .ab (depP V' R'.length b))) :: H) nx) : At P F Q cd ks L H nx := by
  refine At.grow (b := b) d q hd hq hdq fun v => ?_
  have h1 := hR.add he zx zt zr v
  rw [hR.eq] at h1
  subst hR'
  have := h _ _ h1 fun y hy => List.mem_append.2 (.inl hy)
  rwa [show (((R ++ [newC (und R) R.length at' (o, t) xs]).length : Nat) : Int) = (R.length : Int) + 1 by simp] at this
/-- Those that a change names, counted back. -/
def adT (n : Nat) (bs : List Int) : List Int := bs.foldl (fun acc b => if decide ((n : Int) - b % 6 ≥ 1) = true then acc ++ [(n : Int) - b % 6] else acc) []
theorem adT_snoc (n : Nat) (bs : List Int) (b : Int) : adT n (bs ++ [b]) = if decide ((n : Int) - b % 6 ≥ 1) = true then adT n bs ++ [(n : Int) - b % 6] else adT n bs := by
  rw [adT, List.foldl_append]; rfl
theorem adT_le (n : Nat) (bs : List Int) : (adT n bs).length ≤ bs.length := by
  rw [show bs = bs.reverse.reverse from (List.reverse_reverse bs).symm]
  generalize bs.reverse = M
  induction M with
  | nil => simp [adT]
  | cons c M ih =>
    rw [List.reverse_cons, adT_snoc]
    split
    · simp at ih ⊢; omega
    · simp at ih ⊢; omega
/-- The change that is kept. -/
def rnC (R : List Ch) (at' off by' : Int) (back : List Int) : Ch := newC (und R) R.length (at' % 8) (off % 64, bt1 by') (adT R.length back)
theorem RunOk.add {x : RunSt} {R : List Ch} (ok : RunOk x R) (hsml : R.length ≤ 500) {at' off by' : Int} {back : List Int} (zb : back.length ≤ 17592186043904) {A0 : Option Addr} {m0 : Nat} {V' : DV} {W' : List (List Int × Option Addr × Nat)} {A : Option Addr} {m : Nat}
    (hdr : DR V' W' (R ++ [rnC R at' off by' back])) (hw : ∀ y ∈ x.W, y ∈ W') :
    RunOk { x with V := V', W := W' ++ [(adT R.length back, A, m)], Q := x.Q ++ [(at' % 8, off % 64, by', A0, back.length, m0)], A := x.A ++ [(adT R.length back, A, m)] } (R ++ [rnC R at' off by' back]) := by
  have hat : 0 ≤ at' % 8 ∧ at' % 8 < 8 := ⟨Int.emod_nonneg _ (by decide), Int.emod_lt_of_pos _ (by decide)⟩
  have hof : 0 ≤ off % 64 ∧ off % 64 < 64 := ⟨Int.emod_nonneg _ (by decide), Int.emod_lt_of_pos _ (by decide)⟩
  have hah : (rnC R at' off by' back).ah = adT R.length back ++ ((und R).filter fun c => ovb (c.off, c.by') (off % 64, bt1 by') && c.at' == at' % 8).map Ch.no := alls_eq _ _ _ _
  refine ⟨⟨hdr.eq, fun p hp => List.mem_append.2 (.inl (hdr.sub p hp)), hdr.ok, hdr.dep, hdr.z⟩, ?_, ?_, ok.dk.add rfl, by simp [ok.ql], by simp [ok.al], fun y hy => ?_, fun i h h' => ?_, fun i h h' n hn => ?_, fun y hy => ?_⟩
  · refine ok.ov.add ok.dr.dep rfl fun c hc h1 h2 h3 => ?_
    obtain ⟨q1, q2, b, q3⟩ := ok.ok c hc
    rw [hah]
    refine List.mem_append.2 (.inr (List.mem_map.2 ⟨c, List.mem_filter.2 ⟨und_mem.2 ⟨hc, h3⟩, ?_⟩, rfl⟩))
    have h1' : c.at' = at' % 8 := h1
    have h2' : c.off = off % 64 := by
      have : c.off.toNat = (off % 64).toNat := h2
      omega
    rw [q3, bt1_ovb _ _ q2 hof, h1', h2']
    simp
  · intro c hc
    rcases List.mem_append.1 hc with hc | hc
    · exact ok.ok c hc
    · rw [List.mem_singleton.1 hc]
      exact ⟨hat, hof, by', rfl⟩
  · rcases List.mem_append.1 hy with hy | hy
    · exact List.mem_append.2 (.inl (hw y (ok.aw y hy)))
    · exact List.mem_append.2 (.inr hy)
  · by_cases hi : i < R.length
    · simp only [List.getElem_append_left hi, List.getElem_append_left (show i < x.Q.length by rw [ok.ql]; exact hi)]
      exact ok.q i hi _
    · have : i = R.length := by simp at h; omega
      subst this
      have hql := ok.ql
      simp [List.getElem_append_right, hql]
      exact ⟨rfl, rfl, rfl⟩
  · by_cases hi : i < R.length
    · simp only [List.getElem_append_left (show i < x.A.length by rw [ok.al]; exact hi)] at hn
      rw [List.getElem_append_left hi]
      exact ok.a i hi _ n hn
    · have : i = R.length := by simp at h; omega
      subst this
      have hal := ok.al
      simp [List.getElem_append_right, hal] at hn
      simp
      rw [hah]
      exact List.mem_append.2 (.inl hn)
  · rcases List.mem_append.1 hy with hy | hy
    · exact ok.az y hy
    · rw [List.mem_singleton.1 hy]
      have := adT_le R.length back
      show (adT R.length back).length ≤ _
      omega
section
variable {H : HL} {nx d q b bd : Nat} {b1 : Bool} {R : List Ch}
end
end Cw
