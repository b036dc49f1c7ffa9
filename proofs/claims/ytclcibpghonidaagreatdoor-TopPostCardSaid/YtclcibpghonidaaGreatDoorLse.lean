/- The leases on a disk: the table of a disk, who holds what, turns, by reckoning. -/
import Derived.Test.YtclcibpghonidaaGreatDoorTabB
import Derived.Test.YtclcibpghonidaaGreatDoorDisk
import Derived.Test.YtclcibpghonidaaGreatDoorFnAs
namespace Cw
open Go Vc
open Go.Proofs
set_option maxRecDepth 100000
/-- The table's sectors of a disk. -/
def tT (S : List ByteArray) (m : Nat) : List ByteArray := (S.drop 2).take m
theorem tT_len {S : List ByteArray} {m : Nat} (h : 2 + m ≤ S.length) : (tT S m).length = m := by
  rw [tT, List.length_take, List.length_drop]
  omega
theorem nilDq2 {H : HL} {nx d bk : Nat} {S : List ByteArray} {Y : List (Int × Wr)} {last : Int} {b1 : Bool} (hd : lookH H d = some (b1, .ab (dP S Y last bk))) {Lc : LL} {o : Oper} {x y : Operand} (hop : o.op = .binOp .eql 42 x y 42) (hx : ev Lc x = some (.c (.nm d))) (hy : ev Lc y = some (.c .np)) : Spec Tryz.prog Lc H nx o ⟨.t (.c (.b false)), [], [], []⟩ :=
  spec_nil tysOk hop hx hy rfl rfl hd (NotNil.pins (disk_pins _ _ _ _))
section
variable {H : HL} {nx d b N n : Nat} {S : List ByteArray} {W : List (Int × Wr)} {last a bb c : Int}
end
end Cw
namespace Cw
open Go Vc
open Go.Proofs
set_option maxRecDepth 100000
/-- The leases of a disk's table, and what is wrong with it. -/
def tbM (S : List ByteArray) (a bb c : Int) : Nat := nsec (gregions a bb c).toNat
def tbL (S : List ByteArray) (a bb c : Int) : List Ls := dl (tT S (tbM S a bb c)) (gregions a bb c).toNat
open Classical in
noncomputable def tbE (S : List ByteArray) (a bb c : Int) : Int := if ¬ Gok a bb c then 4 else if 2 + tbM S a bb c ≤ S.length ∧ Tdok (tT S (tbM S a bb c)) (gregions a bb c).toNat then 0 else 80
theorem tbL_len (S : List ByteArray) (a bb c : Int) : (tbL S a bb c).length = (gregions a bb c).toNat := dl_length _ _
theorem tbL_le (S : List ByteArray) (a bb c : Int) : (tbL S a bb c).length ≤ 132 := by
  rw [tbL_len]
  have := regions_bd a bb c
  omega
noncomputable def snE (S : List ByteArray) (a bb c node : Int) : Int := if tbE S a bb c ≠ 0 then tbE S a bb c else if node < 0 ∨ 2 ≤ node then 1 else 0
noncomputable def rgE (S : List ByteArray) (a bb c node r : Int) : Int := if snE S a bb c node ≠ 0 then snE S a bb c node else if r < 0 ∨ ((tbL S a bb c).length : Int) ≤ r then 1 else 0
noncomputable def lsX (S : List ByteArray) (a bb c node r : Int) : Ls := if rgE S a bb c node r = 0 then (tbL S a bb c).getD r.toNat (0, 0) else (0, 0)
section
variable {H : HL} {nx d b N n : Nat} {S : List ByteArray} {W : List (Int × Wr)} {last a bb c : Int}
/-- What a node holds. -/
def hdL (S : List ByteArray) (a bb c o : Int) : List Int := held (tbL S a bb c) o (tbL S a bb c).length
/-- Who turns leases. -/
def hdT (d : Nat) (a bb c node ep : Int) : TV := .agg [.nm d, iT a, iT bb, iT c, iT node, iT ep]
end
end Cw
namespace Cw
open Go Vc
open Go.Proofs
set_option maxRecDepth 100000
/-- A lease is turned. -/
def tnE (S : List ByteArray) (a bb c node ep r : Int) (x : Ls) (o : Int) : Int :=
  if gve x o ≠ 0 then gve x o else if tpe a bb c r x.1 x.2 ≠ 0 then tpe a bb c r x.1 x.2 else if tpe a bb c r (gvx x o).1 (gvx x o).2 ≠ 0 then tpe a bb c r (gvx x o).1 (gvx x o).2
  else swE S node ep (tps a bb c r x.1 x.2) (tpp a bb c r x.1 x.2) (tpp a bb c r (gvx x o).1 (gvx x o).2)
def tnS (S : List ByteArray) (a bb c node ep r : Int) (x : Ls) (o : Int) : List ByteArray :=
  if gve x o ≠ 0 then S else if tpe a bb c r x.1 x.2 ≠ 0 then S else if tpe a bb c r (gvx x o).1 (gvx x o).2 ≠ 0 then S
  else swS S node ep (tps a bb c r x.1 x.2) (tpp a bb c r x.1 x.2) (tpp a bb c r (gvx x o).1 (gvx x o).2)
theorem DOk.tn {N : Nat} {S : List ByteArray} {W : List (Int × Wr)} {last : Int} (h : DOk N S W last) (a bb c node ep r : Int) (x : Ls) (o : Int) : DOk N (tnS S a bb c node ep r x o) W last := by
  unfold tnS
  split
  · exact h
  · split
    · exact h
    · split
      · exact h
      · exact h.sw _ _ _ _ _
section
variable {H : HL} {nx d b N n : Nat} {S : List ByteArray} {W : List (Int × Wr)} {last a bb c : Int}
end
/-- A region is claimed. -/
noncomputable def clE (S : List ByteArray) (a bb c node ep r : Int) : Int :=
  if rgE S a bb c node r ≠ 0 then rgE S a bb c node r else if (lsX S a bb c node r).1 = node + 1 then 0 else if 0 < (lsX S a bb c node r).1 then 230 else tnE S a bb c node ep r (lsX S a bb c node r) (node + 1)
noncomputable def clS (S : List ByteArray) (a bb c node ep r : Int) : List ByteArray :=
  if rgE S a bb c node r ≠ 0 then S else if (lsX S a bb c node r).1 = node + 1 then S else if 0 < (lsX S a bb c node r).1 then S else tnS S a bb c node ep r (lsX S a bb c node r) (node + 1)
/-- A region goes away. -/
noncomputable def awE (S : List ByteArray) (a bb c node ep r o : Int) : Int :=
  if rgE S a bb c node r ≠ 0 then rgE S a bb c node r else if (lsX S a bb c node r).1 ≠ node + 1 then 230 else tnE S a bb c node ep r (lsX S a bb c node r) o
noncomputable def awS (S : List ByteArray) (a bb c node ep r o : Int) : List ByteArray :=
  if rgE S a bb c node r ≠ 0 then S else if (lsX S a bb c node r).1 ≠ node + 1 then S else tnS S a bb c node ep r (lsX S a bb c node r) o
section
variable {H : HL} {nx d b N n : Nat} {S : List ByteArray} {W : List (Int × Wr)} {last a bb c : Int}
/-- The other node's mark. -/
def oth (node : Int) : Int := IntKind.i64.wrap (IntKind.i64.wrap (1 - node) + 1)
/-- What is seized, one by one: what went wrong, and the disk behind it. -/
def szR (a bb c node ep : Int) (L : List Ls) : List Int → List ByteArray → Int × List ByteArray
  | [], S => (0, S)
  | r :: rs, S => if tnE S a bb c node ep r (L.getD r.toNat (0, 0)) (node + 1) ≠ 0 then (tnE S a bb c node ep r (L.getD r.toNat (0, 0)) (node + 1), tnS S a bb c node ep r (L.getD r.toNat (0, 0)) (node + 1))
    else szR a bb c node ep L rs (tnS S a bb c node ep r (L.getD r.toNat (0, 0)) (node + 1))
end
end Cw
namespace Cw
open Go Vc
open Go.Proofs
set_option maxRecDepth 100000
theorem sec_lease (L : List Ls) (r : Nat) (hr : r < L.length) : ((sec (tz L L.length) (r / 16)).drop (r % 16 * 4)).take 4 = lw L[r] := by
  unfold sec
  rw [List.drop_take, List.take_take, Nat.min_eq_left (by omega), List.drop_drop, show 64 * (r / 16) + r % 16 * 4 = 4 * r by omega]
  unfold tz
  rw [List.take_length, List.drop_append_of_le_length (by rw [lbytes_length]; omega), lbytes_drop, List.drop_eq_getElem_cons hr]
  have : lbytes (L[r] :: L.drop (r + 1)) = lw L[r] ++ lbytes (L.drop (r + 1)) := rfl
  rw [this, List.append_assoc, List.take_left' (lw_length _)]
theorem tT_set {S : List ByteArray} {m q : Nat} (t : ByteArray) (hq : q < m) : tT (S.set (2 + q) t) m = (tT S m).set q t := by
  rw [tT, tT, List.drop_set, if_neg (by omega), show 2 + q - 2 = q by omega, List.take_set]
theorem s1_set {S : List ByteArray} {q : Nat} (t : ByteArray) : s1 (S.set (2 + q) t) = s1 S := by
  rw [s1, s1, List.getD_eq_getElem?_getD, List.getD_eq_getElem?_getD, List.getElem?_set, if_neg (by omega)]
theorem rd_tT {S : List ByteArray} {m q : Nat} (hq : q < m) (h : 2 + m ≤ S.length) : rdT S (2 + (q : Nat) : Int) = (tT S m)[q]'(by rw [tT_len h]; exact hq) := by
  have h2 : inS S.length (2 + (q : Nat) : Int) = true := inS_iff.2 (by omega)
  have h3 : (2 + (q : Nat) : Int).toNat = 2 + q := by omega
  rw [rdT, if_pos h2, h3, List.getD_eq_getElem?_getD, List.getElem?_eq_getElem (by omega), Option.getD_some]
  simp only [tT, List.getElem_take, List.getElem_drop]
/-- A disk that has a table of these leases, and these epochs. -/
structure TbI (S : List ByteArray) (a bb c : Int) (L : List Ls) (f0 f1 N : Nat) : Prop where
  g : Gok a bb c
  hn : gregions a bb c = (L.length : Nat)
  tk : L.all (fun x => tok x.1 x.2) = true
  ln : 2 + nsec L.length ≤ N
  tb : tT S (nsec L.length) = tsecs (tz L L.length) (nsec L.length)
  w : s1 S = wallB f0 f1
  f0 : f0 < 4294967296
  f1 : f1 < 4294967296
  ok : DOk N S [] 0
section
variable {S : List ByteArray} {a bb c : Int} {L : List Ls} {f0 f1 N : Nat}
theorem TbI.tl (h : TbI S a bb c L f0 f1 N) : (gregions a bb c).toNat = L.length := by rw [h.hn]; omega
theorem TbI.e (h : TbI S a bb c L f0 f1 N) : tbE S a bb c = 0 := by
  unfold tbE tbM
  rw [h.tl, if_neg (fun hg => hg h.g), if_pos]
  rw [h.ok.len, h.tb]
  exact ⟨h.ln, tdok_back L h.tk⟩
theorem TbI.l (h : TbI S a bb c L f0 f1 N) : tbL S a bb c = L := by
  unfold tbL tbM
  rw [h.tl, h.tb]
  exact dl_back L h.tk
theorem TbI.sn (h : TbI S a bb c L f0 f1 N) {node : Int} (hn : 0 ≤ node ∧ node < 2) : snE S a bb c node = 0 := by
  rw [snE, h.e, if_neg (fun h => h rfl), if_neg (by omega)]
theorem TbI.le (h : TbI S a bb c L f0 f1 N) : L.length ≤ 132 := by rw [← h.l]; exact tbL_le _ _ _ _
theorem TbI.rgE (h : TbI S a bb c L f0 f1 N) {node : Int} (hn : 0 ≤ node ∧ node < 2) {r : Nat} (hr : r < L.length) : rgE S a bb c node (r : Nat) = 0 ∧ lsX S a bb c node (r : Nat) = L[r] := by
  have e1 : Cw.rgE S a bb c node (r : Nat) = 0 := by rw [Cw.rgE, h.sn hn, if_neg (fun h => h rfl), h.l, if_neg (by omega)]
  refine ⟨e1, ?_⟩
  rw [lsX, if_pos e1, h.l, Int.toNat_natCast, List.getD_eq_getElem?_getD, List.getElem?_eq_getElem hr]
  rfl
/-- A node's fence. -/
def fnc (f0 f1 : Nat) (node : Int) : Nat := if node = 0 then f0 else f1
theorem put_ok (hg : Gok a bb c) {r : Nat} (hr : (r : Int) < gregions a bb c) {x : Ls} (hx : tok x.1 x.2 = true) : tpe a bb c (r : Nat) x.1 x.2 = 0 ∧ tps a bb c (r : Nat) x.1 x.2 = 2 + (r / 16 : Nat) ∧ tpp a bb c (r : Nat) x.1 x.2 = (((r % 16 * 4 : Nat) : Int), Cw.S (lw x)) := by
  have he := te_in hg r hr
  obtain ⟨_, _, _, h1, h2, _⟩ := te_ok he
  have h3 : tpe a bb c (r : Nat) x.1 x.2 = 0 := by rw [tpe, if_neg (by omega), if_pos hx]
  refine ⟨h3, ?_, ?_⟩
  · rw [tps, if_pos h3, h1]; omega
  · rw [tpp, if_pos h3, h2]
    congr 1
theorem gve_ok {x : Ls} (hx : tok x.1 x.2 = true) {o : Int} (ho : 0 ≤ o ∧ o ≤ 2) (hs : x.2 ≠ 16777215) : gve x o = 0 ∧ gvx x o = (o, x.2 + 1) := by
  have e : gve x o = 0 := by rw [gve, if_pos hx, if_neg (by omega)]
  exact ⟨e, by rw [gvx, if_pos e]⟩
theorem tok_next {x : Ls} (hx : tok x.1 x.2 = true) {o : Int} (ho : 0 ≤ o ∧ o ≤ 2) (hs : x.2 ≠ 16777215) : tok o (x.2 + 1) = true := by
  have := tok_iff hx
  simp [tok]
  omega
theorem TbI.tn (h : TbI S a bb c L f0 f1 N) {node ep o : Int} (hn : node = 0 ∨ node = 1) (he : 0 ≤ ep ∧ ep ≤ 4294967295) (ho : 0 ≤ o ∧ o ≤ 2) {r : Nat} (hr : r < L.length) (hs : L[r].2 ≠ 16777215) :
    ((fnc f0 f1 node : Int) ≤ ep → tnE S a bb c node ep (r : Nat) L[r] o = 0 ∧ TbI (tnS S a bb c node ep (r : Nat) L[r] o) a bb c (L.set r (o, L[r].2 + 1)) f0 f1 N) ∧
    (¬ (fnc f0 f1 node : Int) ≤ ep → tnE S a bb c node ep (r : Nat) L[r] o = 110 ∧ tnS S a bb c node ep (r : Nat) L[r] o = S) := by
  have hx : tok L[r].1 L[r].2 = true := List.all_eq_true.1 h.tk _ (List.getElem_mem hr)
  obtain ⟨g1, g2⟩ := gve_ok hx ho hs
  have hy : tok o (L[r].2 + 1) = true := tok_next hx ho hs
  have hrn : (r : Int) < gregions a bb c := by rw [h.hn]; omega
  obtain ⟨p1, p2, p3⟩ := put_ok (x := L[r]) h.g hrn hx
  obtain ⟨q1, q2, q3⟩ := put_ok (x := (o, L[r].2 + 1)) h.g hrn hy
  simp only at q1 q2 q3
  have hq : r / 16 < nsec L.length := by unfold nsec; omega
  have hlen : 2 + nsec L.length ≤ S.length := by rw [h.ok.len]; exact h.ln
  have hz : 64 * nsec L.length = (tz L L.length).length := (tz_length L _ (Nat.le_refl _)).symm
  have hsl : (sec (tz L L.length) (r / 16)).length = 64 := sec_length hz.symm hq
  have hrd : rdT S (2 + (r / 16 : Nat) : Int) = Cw.S (sec (tz L L.length) (r / 16)) := by
    rw [rd_tT hq hlen]
    simp only [h.tb, secs_get]
  have okx : okp (((r % 16 * 4 : Nat) : Int), Cw.S (lw L[r])) = true := by
    simp [okp, finside, S_size, lw_length]
    omega
  have oky : okp (((r % 16 * 4 : Nat) : Int), Cw.S (lw (o, L[r].2 + 1))) = true := by
    simp [okp, finside, S_size, lw_length]
    omega
  have i0 : isE node ep = 0 := isE_ok (by rcases hn with rfl | rfl <;> omega)
  have i1 : inS S.length (2 + (r / 16 : Nat) : Int) = true := inS_iff.2 (by omega)
  have hps : psD (s1 S) node ep = decide ((fnc f0 f1 node : Int) ≤ ep) := by
    rw [h.w, psD_wall h.f0 h.f1 node ep hn]
    rfl
  have hsw : swE S node ep (2 + (r / 16 : Nat)) (((r % 16 * 4 : Nat) : Int), Cw.S (lw L[r])) (((r % 16 * 4 : Nat) : Int), Cw.S (lw (o, L[r].2 + 1))) = if (fnc f0 f1 node : Int) ≤ ep then 0 else 110 := by
    rw [swE, if_neg (fun h => h i0), if_neg (by rw [i1]; decide), if_neg (by rw [okx, oky]; decide), if_neg (by simp [S_size, lw_length]), hps]
    by_cases hc : (fnc f0 f1 node : Int) ≤ ep
    · rw [if_neg (by simpa using hc), if_pos hc]
    · rw [if_pos (by simpa using hc), if_neg hc]
  have hE : tnE S a bb c node ep (r : Nat) L[r] o = if (fnc f0 f1 node : Int) ≤ ep then 0 else 110 := by
    rw [tnE, if_neg (fun h => h g1), if_neg (fun h => h p1), g2, if_neg (fun h => h q1), p2, p3, q3, hsw]
  have hS : tnS S a bb c node ep (r : Nat) L[r] o = swS S node ep (2 + (r / 16 : Nat)) (((r % 16 * 4 : Nat) : Int), Cw.S (lw L[r])) (((r % 16 * 4 : Nat) : Int), Cw.S (lw (o, L[r].2 + 1))) := by
    rw [tnS, if_neg (fun h => h g1), if_neg (fun h => h p1), g2, if_neg (fun h => h q1), p2, p3, q3]
  refine ⟨fun hc => ⟨by rw [hE, if_pos hc], ?_⟩, fun hc => ⟨by rw [hE, if_neg hc], ?_⟩⟩
  · have hb : plc (rdT S (2 + (r / 16 : Nat) : Int)) (((r % 16 * 4 : Nat) : Int), Cw.S (lw L[r])) = Cw.S (lw L[r]) := by
      apply bt_ext
      rw [plc_data okx, hrd]
      show ((Cw.S (sec (tz L L.length) (r / 16))).data.toList.drop ((r % 16 * 4 : Nat) : Int).toNat).take (Cw.S (lw L[r])).size = (Cw.S (lw L[r])).data.toList
      rw [Int.toNat_natCast, S_size, lw_length, S_data, S_data]
      exact sec_lease L r hr
    have hT : tnS S a bb c node ep (r : Nat) L[r] o = S.set (2 + r / 16) (Cw.S (one (sec (tz L L.length) (r / 16)) ((r % 16 * 4 : Nat), Cw.S (lw (o, L[r].2 + 1))))) := by
      rw [hS, swS, swB, hsw, if_pos hc, hb, if_pos (by simp [bq])]
      have h1 : (2 + (r / 16 : Nat) : Int).toNat = 2 + r / 16 := by omega
      rw [h1]
      congr 1
      apply bt_ext
      rw [pt_data (by rw [hrd, S_size]; exact hsl) oky, hrd]
      show over (Cw.S (sec (tz L L.length) (r / 16))).data.toList ((r % 16 * 4 : Nat) : Int).toNat (Cw.S (lw (o, L[r].2 + 1))).data.toList = _
      rw [S_data, S_data, one, S_data]
      rfl
    have hok := h.ok.tn a bb c node ep (r : Nat) L[r] o
    rw [hT] at hok ⊢
    have hl : (L.set r (o, L[r].2 + 1)).length = L.length := List.length_set ..
    refine ⟨h.g, by rw [hl]; exact h.hn, ?_, by rw [hl]; exact h.ln, ?_, by rw [s1_set]; exact h.w, h.f0, h.f1, hok⟩
    · rw [List.all_eq_true]
      intro y hy'
      rcases List.mem_or_eq_of_mem_set hy' with h1 | h1
      · exact List.all_eq_true.1 h.tk _ h1
      · rw [h1]; exact hy
    · rw [hl, tT_set _ hq, h.tb]
      have := secs_set L r hr (o, L[r].2 + 1)
      rw [← hl]
      rw [hl]
      exact this
  · rw [hS, swS, swB, hsw, if_neg hc]
    simp
end
end Cw
namespace Cw
open Go Vc
open Go.Proofs
set_option maxRecDepth 100000
/-- What a call leaves of the leases: each as it was, or turned once. -/
structure Stp (L L' : List Ls) (out : Bool) (B : Int) : Prop where
  len : L'.length = L.length
  st : ∀ (j : Nat) (h : j < L.length) (h' : j < L'.length), L'[j] = L[j] ∨ (out = false ∧ L'[j].2 = L[j].2 + 1)
  bd : ∀ x ∈ L', x.2 ≤ B + 1
theorem Stp.same {L : List Ls} {out : Bool} {B : Int} (h : ∀ x ∈ L, x.2 ≤ B) : Stp L L out B := ⟨rfl, fun j h h' => .inl rfl, fun x hx => by have := h x hx; omega⟩
theorem Stp.set {L : List Ls} {B o : Int} (h : ∀ x ∈ L, x.2 ≤ B) {r : Nat} (hr : r < L.length) : Stp L (L.set r (o, L[r].2 + 1)) false B := by
  refine ⟨List.length_set .., fun j hj h' => ?_, fun x hx => ?_⟩
  · rw [List.getElem_set]
    split
    · rename_i h1; subst h1; exact .inr ⟨rfl, rfl⟩
    · exact .inl rfl
  · rcases List.mem_or_eq_of_mem_set hx with h1 | h1
    · have := h x h1; omega
    · rw [h1]
      have := h _ (List.getElem_mem hr)
      show L[r].2 + 1 ≤ B + 1
      omega
section
variable {S : List ByteArray} {a bb c : Int} {L : List Ls} {f0 f1 N : Nat} {B : Int}
theorem TbI.away (h : TbI S a bb c L f0 f1 N) {node ep o : Int} (hn : node = 0 ∨ node = 1) (he : 0 ≤ ep ∧ ep ≤ 4294967295) (ho : 0 ≤ o ∧ o ≤ 2) {r : Nat} (hr : r < L.length) (hB : ∀ x ∈ L, x.2 ≤ B) (hB2 : B < 16777215) :
    ∃ L', TbI (awS S a bb c node ep (r : Nat) o) a bb c L' f0 f1 N ∧ Stp L L' (decide (ep < (fnc f0 f1 node : Int))) B ∧
      ((fnc f0 f1 node : Int) ≤ ep → (awE S a bb c node ep (r : Nat) o = 0 ↔ L[r].1 = node + 1) ∧ L' = if L[r].1 = node + 1 then L.set r (o, L[r].2 + 1) else L) := by
  have hn' : 0 ≤ node ∧ node < 2 := by omega
  obtain ⟨e1, e2⟩ := h.rgE hn' hr
  have hs : L[r].2 ≠ 16777215 := by have := hB _ (List.getElem_mem hr); omega
  obtain ⟨t1, t2⟩ := h.tn hn he ho hr hs
  unfold awE awS
  rw [e1, e2]
  simp only [ne_eq, not_true_eq_false, if_false]
  by_cases h1 : L[r].1 = node + 1
  · simp only [h1, not_true_eq_false, if_false, if_true]
    by_cases hp : (fnc f0 f1 node : Int) ≤ ep
    · obtain ⟨q1, q2⟩ := t1 hp
      refine ⟨_, q2, ?_, fun _ => ⟨by rw [q1]; simp, rfl⟩⟩
      rw [decide_eq_false (by omega)]
      exact Stp.set hB hr
    · obtain ⟨q1, q2⟩ := t2 hp
      rw [q2]
      exact ⟨L, h, Stp.same hB, fun h => absurd h hp⟩
  · simp only [h1, not_false_eq_true, if_true, if_false]
    exact ⟨L, h, Stp.same hB, fun _ => ⟨by simp, rfl⟩⟩
/-- All of the other's seized. -/
def szL (L : List Ls) (node : Int) : List Ls := L.map fun x => if x.1 = 2 - node then (node + 1, x.2 + 1) else x
end
end Cw
