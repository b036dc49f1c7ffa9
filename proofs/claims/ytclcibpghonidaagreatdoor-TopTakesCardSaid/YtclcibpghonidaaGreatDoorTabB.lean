/- Tables of leases as sectors: plain laws. No program in sight. -/
import Derived.Test.YtclcibpghonidaaGreatDoorTableW
import Derived.Test.YtclcibpghonidaaGreatDoorWireW
import Derived.Test.YtclcibpghonidaaGreatDoorFieldW
import Derived.Test.YtclcibpghonidaaGreatDoorSlV
import Derived.Test.YtclcibpghonidaaGreatDoorVcGo
namespace Cw
open Go Go.RowKit

abbrev Ls := Int × Int
def lcells (l : List Ls) : List Value := (l.map fun x => [Value.int .i64 x.1, Value.int .i64 x.2]).flatten
theorem lcells_get : ∀ (l : List Ls) (i : Nat) (h : i < l.length), (lcells l)[i * 2]? = some (.int .i64 l[i].1) ∧ (lcells l)[i * 2 + 1]? = some (.int .i64 l[i].2)
  | p :: l, 0, _ => ⟨rfl, rfl⟩
  | p :: l, i + 1, h => by
    have := lcells_get l i (by simpa using h)
    rw [show (i + 1) * 2 = i * 2 + 2 by omega]
    exact ⟨this.1, this.2⟩
/-- A lease's bytes, those of a list; a sector of bytes; all of them. -/
def lw (x : Ls) : List UInt8 := le 4 (lv x.1 x.2)
def lbytes (l : List Ls) : List UInt8 := (l.map lw).flatten
theorem lw_length (x : Ls) : (lw x).length = 4 := by simp [lw, le]
theorem lbytes_length (l : List Ls) : (lbytes l).length = 4 * l.length := by
  induction l with
  | nil => rfl
  | cons x l ih =>
    have := lw_length x
    simp only [lbytes, List.map_cons, List.flatten_cons, List.length_append, List.length_cons] at *
    omega
theorem lbytes_append (l m : List Ls) : lbytes (l ++ m) = lbytes l ++ lbytes m := by simp [lbytes]
def sec (z : List UInt8) (j : Nat) : List UInt8 := (z.drop (64 * j)).take 64
def tsecs (z : List UInt8) (m : Nat) : List ByteArray := (List.range m).map fun j => S (sec z j)
theorem secs_length (z : List UInt8) (m : Nat) : (tsecs z m).length = m := by simp [tsecs]
theorem secs_get {z : List UInt8} {m j : Nat} (h : j < (tsecs z m).length) : (tsecs z m)[j] = S (sec z j) := by simp [tsecs]
def nsec (n : Nat) : Nat := (n + 15) / 16
/-- The first r leases of a table, as bytes of whole sectors. -/
def tz (l : List Ls) (r : Nat) : List UInt8 := lbytes (l.take r) ++ List.replicate (64 * nsec l.length - 4 * r) 0
theorem tz_length (l : List Ls) (r : Nat) (h : r ≤ l.length) : (tz l r).length = 64 * nsec l.length := by
  simp only [tz, List.length_append, lbytes_length, List.length_take, List.length_replicate, nsec]
  omega
theorem tz_zero (l : List Ls) : tz l 0 = List.replicate (64 * nsec l.length) 0 := by simp [tz, lbytes]
theorem sec_get (z : List UInt8) (j i : Nat) : (sec z j)[i]? = if i < 64 then z[64 * j + i]? else none := by
  unfold sec
  rw [List.getElem?_take]
  split
  · rw [List.getElem?_drop]
  · rfl
theorem sec_length {z : List UInt8} {m j : Nat} (hz : z.length = 64 * m) (h : j < m) : (sec z j).length = 64 := by
  simp only [sec, List.length_take, List.length_drop]
  omega
theorem sec_over {z t : List UInt8} {m q o : Nat} (hz : z.length = 64 * m) (hq : q < m) (ho : o + t.length ≤ 64) (j : Nat) : sec (over z (64 * q + o) t) j = if j = q then over (sec z q) o t else sec z j := by
  have hs := sec_length hz hq
  apply List.ext_getElem?
  intro i
  rw [sec_get]
  by_cases hi : i < 64
  · rw [if_pos hi, over_get z _ t (by omega)]
    by_cases hj : j = q
    · subst hj
      rw [if_pos rfl, over_get _ _ _ (by omega), sec_get, if_pos hi]
      by_cases h : o ≤ i ∧ i < o + t.length
      · rw [if_pos (by omega), if_pos h]
        congr 1
        omega
      · rw [if_neg (by omega), if_neg h]
    · rw [if_neg hj, sec_get, if_pos hi, if_neg]
      rintro ⟨h1, h2⟩
      exact hj (by omega)
  · rw [if_neg hi]
    by_cases hj : j = q
    · rw [if_pos hj, List.getElem?_eq_none]
      rw [over_length _ _ _ (by omega)]
      omega
    · rw [if_neg hj, sec_get, if_neg hi]
theorem tz_succ (l : List Ls) (r : Nat) (h : r < l.length) : over (tz l r) (4 * r) (lw l[r]) = tz l (r + 1) := by
  have h1 : (lbytes (l.take r)).length = 4 * r := by rw [lbytes_length, List.length_take]; omega
  have h2 := lw_length l[r]
  unfold over tz
  rw [List.take_left' h1, List.drop_append, h1, h2, List.drop_of_length_le (by omega), List.nil_append, show 4 * r + 4 - 4 * r = 4 by omega, List.drop_replicate, List.take_succ_eq_append_getElem h, lbytes_append, List.append_assoc]
  rw [show lbytes [l[r]] = lw l[r] by simp [lbytes], show 64 * nsec l.length - 4 * (r + 1) = 64 * nsec l.length - 4 * r - 4 by omega]
/-- A lease more. -/
theorem secs_succ (l : List Ls) (r : Nat) (h : r < l.length) : (tsecs (tz l r) (nsec l.length)).set (r / 16) (S (one (sec (tz l r) (r / 16)) ((r % 16 * 4 : Nat), S (lw l[r])))) = tsecs (tz l (r + 1)) (nsec l.length) := by
  have hn : r / 16 < nsec l.length := by unfold nsec; omega
  have hz := tz_length l r (by omega)
  apply List.ext_getElem (by simp [secs_length])
  intro j h1 h2
  rw [secs_length] at h2
  rw [List.getElem_set, secs_get, secs_get, ← tz_succ l r h, show 4 * r = 64 * (r / 16) + r % 16 * 4 by omega, sec_over hz hn (by rw [lw_length]; omega)]
  split
  · rename_i hj
    subst hj
    rw [if_pos rfl]
    simp only [one, Int.toNat_natCast, S_data]
  · rename_i hj
    rw [if_neg (fun e => hj e.symm)]
end Cw
namespace Cw
open Go Vc
open Go.Proofs
set_option maxRecDepth 100000
def lT (x : Ls) : TV := .agg [iT x.1, iT x.2]
theorem tregions0 (a b c : Int) : Fn0 Tryz.prog 52 [geoT a b c] (.t (.c (iT (gregions a b c)))) := ⟨fun w => regions_any a b c w⟩
theorem tsectors0 (a b c : Int) : Fn0 Tryz.prog 51 [geoT a b c] (.t (.c (iT ((gregions a b c + 15) / 16)))) := by
  refine fn0 (fn := Tryz.f51) 8 rfl rfl rfl rfl rfl fun w => ?_
  refine rn [(4, .ret (.t (.c (iT (gregions a b c)))))] rfl (by (repeat' (first | exact trivial | exact rfl | exact tregions0 a b c | exact fun _ => tregions0 a b c | decide | refine And.intro ?_ ?_))) ?_
  refine ret0 tysOk rfl ⟨?_, trivial⟩ rfl
  have := regions_bd a b c
  rw [wrap_sm (x := gregions a b c + 16) (by omega) (by omega), wrap_sm (x := gregions a b c + 16 - 1) (by omega) (by omega), Int.tdiv_eq_ediv_of_nonneg (by omega), show gregions a b c + 16 - 1 = gregions a b c + 15 by omega]
  exact wrap_sm (by omega) (by omega)
theorem tput0 (a b c r : Int) (x : Ls) : Fn0 Tryz.prog 85 [geoT a b c, .c (iT r), lT x] (.tup [.c (iT (tps a b c r x.1 x.2)), .agg [iT (tpp a b c r x.1 x.2).1, .s (tpp a b c r x.1 x.2).2], .c (iT (tpe a b c r x.1 x.2))]) := ⟨fun w => tput_any a b c r x.1 x.2 w⟩
theorem te_in {a b c : Int} (hg : Gok a b c) (r : Nat) (hr : (r : Int) < gregions a b c) : te a b c r = 0 := within_zero hg (by omega) hr
theorem tputOk0 {a b c : Int} (hg : Gok a b c) (r : Nat) (x : Ls) (hr : (r : Int) < gregions a b c) (hx : tok x.1 x.2 = true) : Fn0 Tryz.prog 85 [geoT a b c, .c (iT r), lT x] (.tup [.c (iT (2 + (r / 16 : Nat))), patT ((r % 16 * 4 : Nat)) (lw x), .c (iT 0)]) := by
  have he := te_in hg r hr
  have h := tput0 a b c r x
  obtain ⟨_, _, _, h1, h2, _⟩ := te_ok he
  have h3 : tpe a b c r x.1 x.2 = 0 := by rw [tpe, if_neg (by omega), if_pos hx]
  rw [h3, tps, if_pos h3, tpp, if_pos h3, h1, h2] at h
  exact h
theorem patch_lease (z : List UInt8) (hz : z.length = 64) (r : Nat) (x : Ls) (hx : tok x.1 x.2 = true) {H : HL} {nx k : Nat} {b : Bool} {T : TypeId} (hk : lookH H k = some (b, .cells [iT ((r % 16 * 4 : Nat)), .s (S (lw x))] T)) :
    FnH Tryz.prog 72 [.c (.s (S z)), .c (.sl k 0 1 1)] H nx ⟨.tup [.c (.s (S (one z ((r % 16 * 4 : Nat), S (lw x))))), .c (iT 0)], [], [], []⟩ := by
  have hl := lw_length x
  have hok : okp ((r % 16 * 4 : Nat), S (lw x)) = true := by
    simp only [okp, finside, S_size, hl]
    simp
    omega
  obtain ⟨e1, e2⟩ := pt_ok (S z) [((r % 16 * 4 : Nat), S (lw x))] (by rw [S_size, hz]) (by simp) (by rw [List.all_cons, hok]; rfl)
  have h := patched_lit (S z) [(((r % 16 * 4 : Nat) : Int), S (lw x))] (by intro p hp; rw [List.mem_singleton.1 hp]; rw [S_size, hl]; decide) (by rw [S_size, hz]; decide) (by simp [maxLen]) (nx := nx) (m := 1) hk rfl (fun e => rfl)
  rw [e1, e2] at h
  rw [S_data] at h
  exact h
theorem repl_svs (m : Nat) : (repl m [CV.s ⟨#[]⟩]).map (CV.den e0) = svs (List.replicate 0 B0 ++ List.replicate (m - 0) ⟨#[]⟩) := by
  rw [repl_map]
  simp [svs, CV.den]
theorem setAt_svs {l : List ByteArray} {k : Nat} (h : k < l.length) (b : ByteArray) : setAt (svs l) k [.string b] = svs (l.set k b) := by
  rw [List.set_eq_take_append_cons_drop, if_pos h]
  simp [setAt, svs, List.map_take, List.map_drop]
theorem fill_svs {m k : Nat} (h : k < m) : setAt (svs (List.replicate k B0 ++ List.replicate (m - k) ⟨#[]⟩)) ((k : Int).toNat * 1) [Value.string B0] = svs (List.replicate (k + 1) B0 ++ List.replicate (m - (k + 1)) ⟨#[]⟩) := by
  rw [Int.toNat_natCast, Nat.mul_one, setAt_svs (by simp; omega)]
  congr 1
  obtain ⟨d, hd⟩ : ∃ d, m - k = d + 1 := ⟨m - k - 1, by omega⟩
  rw [hd, show m - (k + 1) = d by omega, List.set_append_right _ _ (by simp), List.length_replicate, Nat.sub_self, List.replicate_succ, List.set_cons_zero, List.replicate_succ', List.append_assoc]
  rfl
theorem secs_blank (l : List Ls) : List.replicate (nsec l.length) B0 ++ List.replicate (nsec l.length - nsec l.length) ⟨#[]⟩ = tsecs (tz l 0) (nsec l.length) := by
  rw [Nat.sub_self, List.replicate_zero, List.append_nil]
  apply List.ext_getElem (by simp [secs_length])
  intro j h1 h2
  rw [secs_get, List.getElem_replicate, tz_zero]
  rw [secs_length] at h2
  have : sec (List.replicate (64 * nsec l.length) 0) j = List.replicate 64 0 := by
    simp only [sec, List.drop_replicate, List.take_replicate]
    congr 1
    omega
  rw [this]
  rfl
theorem round_svs {l : List Ls} {r : Nat} (h : r < l.length) {i : Int} (hi : i = (r / 16 : Nat)) : setAt (svs (tsecs (tz l r) (nsec l.length))) (i.toNat * 1) [Value.string (S (one (sec (tz l r) (r / 16)) ((r % 16 * 4 : Nat), S (lw l[r]))))] = svs (tsecs (tz l (r + 1)) (nsec l.length)) := by
  have hq : r / 16 < nsec l.length := by unfold nsec; omega
  subst hi
  rw [Int.toNat_natCast, Nat.mul_one, setAt_svs (by rw [secs_length]; exact hq), secs_succ l r h]
set_option maxRecDepth 100000 in
set_option maxHeartbeats 2000000 in
theorem tenc_h {a b c : Int} (l : List Ls) (hg : Gok a b c) (hn : gregions a b c = (l.length : Nat)) (hall : l.all (fun x => tok x.1 x.2) = true) {H : HL} {nx : Nat} {v : TV} (hv : SlR H v l.length 2 (lcells l)) :
    FnH Tryz.prog 55 [geoT a b c, v] H nx ⟨.tup [.c (.nm nx), .c (iT 0)], [(true, .own 9 1 (nsec l.length) (svs (tsecs (tz l l.length) (nsec l.length))))], [], []⟩ := by
  have hrb := regions_bd a b c
  have hr2 : 2 ≤ l.length := by
    have h := hn
    rw [gregions, if_pos hg] at h
    have := ab_bd hg
    have := hg.1
    omega
  have hgr : gregions a b c = (l.length : Nat) := hn
  have hnm : nsec l.length ≤ 9 := by unfold nsec; omega
  have hshape : (((l.length : Nat) : Int) == 0 || ((l.length : Nat) : Int) != (l.length : Nat)) = false := by
    have : ((l.length : Nat) : Int) ≠ 0 := by omega
    rw [Bool.or_eq_false_iff]
    exact ⟨by simpa using this, by simp⟩
  have hsec : Fn0 Tryz.prog 51 [geoT a b c] (.t (.c (iT (nsec l.length : Nat)))) := by
    have := tsectors0 a b c
    rw [hn] at this
    rwa [show (((l.length : Nat) : Int) + 15) / 16 = (nsec l.length : Nat) by unfold nsec; omega] at this
  refine fnN (fn := Tryz.f55) 72 rfl rfl rfl (args' := [geoT a b c, .c (.nm 0)]) (H' := [(0, some (false, .rd 2 l.length (lcells l)))]) (nx' := 1) (fun e w M => ?_) rfl rfl rfl (inR_one nx) rfl fun w => ?_
  · obtain ⟨e', M', q1⟩ := slr1 hv e w M
    exact ⟨e', M', by simp [q1]; rfl⟩
  refine rn [(15, .ret (.t (.c (iT (l.length : Nat))))), (23, .dec false), (25, .ret (.t (.c (iT (nsec l.length : Nat)))))] rfl ?_ ?_
  · (repeat' (first | exact trivial | exact rfl | exact hgr ▸ tregions0 a b c | exact fun _ => hgr ▸ tregions0 a b c | first | exact hsec | exact hshape | (simp; omega) | (simp [maxLen]; omega) | omega | refine And.intro ?_ ?_))
  refine At.loop (X := (k : Nat) ×' (k ≤ nsec l.length)) 3 (fun k => nsec l.length - k.1)
    (fun k => [(1, .t (.c (.nm 0))), (2, .t (.c (.p 1 0))), (7, .t (.c (.nm 2))), (28, .t (.c (iT (nsec l.length : Nat)))), (29, .t (.c (iT (k.1 : Nat))))])
    (fun k => [(0, some (false, .rd 2 l.length (lcells l))), (1, some (true, .cells [iT a, iT b, iT c] 41)), (2, some (true, .own 9 1 (nsec l.length) (svs (List.replicate k.1 B0 ++ List.replicate (nsec l.length - k.1) ⟨#[]⟩))))]) ⟨0, by omega⟩ [] (fun k => wf rfl rfl) (by repeat' (first | exact trivial | exact rfl | refine And.intro ?_ ?_)) ?_ rfl fun k => ?_
  · repeat' (first | exact trivial | exact rfl | refine And.intro ?_ ?_)
    exact repl_svs _
  · obtain ⟨k, hk⟩ := k
    refine rn [] rfl (by repeat' (first | exact trivial | exact rfl | refine And.intro ?_ ?_)) ?_
    refine ⟨fun h => ?_, fun h => ?_⟩
    · have hlt : k < nsec l.length := by have : (k : Int) < ((nsec l.length : Nat) : Int) := of_decide_eq_true h; omega
      have w2 : IntKind.i64.wrap ((k : Int) + 1) = ((k + 1 : Nat) : Int) := by rw [wrap_sm (by omega) (by omega)]; omega
      refine rn [(34, .ret (.t (.c (.s B0))))] rfl (by (repeat' (first | exact trivial | exact rfl | exact blank0 | exact fun _ => blank0 | first | omega | decide | (simp only [svs_length, List.length_append, List.length_replicate, Int.toNat_natCast]; omega) | refine And.intro ?_ ?_))) ?_
      refine roundEnd ⟨k + 1, by omega⟩ [] (by show nsec l.length - (k + 1) < nsec l.length - k; omega) (by (repeat' (first | exact trivial | exact rfl | exact w2 | exact fun _ => w2 | refine And.intro ?_ ?_))) ?_ rfl
      repeat' (first | exact trivial | exact rfl | refine And.intro ?_ ?_)
      exact fill_svs hlt
    have hlt : k = nsec l.length := by have : ¬ (k : Int) < ((nsec l.length : Nat) : Int) := of_decide_eq_false h; omega
    subst hlt
    refine rn [] rfl (by repeat' (first | exact trivial | exact rfl | refine And.intro ?_ ?_)) (roundExit rfl ?_)
    refine rnA [] rfl (by repeat' (first | exact trivial | exact rfl | refine And.intro ?_ ?_)) ?_
    refine At.loop (X := (r : Nat) ×' (r ≤ l.length)) 3 (fun r => l.length - r.1)
      (fun r => [(1, .t (.c (.nm 0))), (2, .t (.c (.p 1 0))), (7, .t (.c (.nm 2))), (37, .t (.c (.nm 0))), (38, .t (.c (iT (l.length : Nat)))), (39, .t (.c (iT (r.1 : Nat))))])
      (fun r => [(0, some (false, .rd 2 l.length (lcells l))), (1, some (true, .cells [iT a, iT b, iT c] 41)), (2, some (true, .own 9 1 (nsec l.length) (svs (tsecs (tz l r.1) (nsec l.length)))))]) ⟨0, by omega⟩ [] (fun r => wf rfl rfl) (by repeat' (first | exact trivial | exact rfl | refine And.intro ?_ ?_)) ?_ rfl fun r => ?_
    · repeat' (first | exact trivial | exact rfl | refine And.intro ?_ ?_)
      rw [secs_blank]
    obtain ⟨r, hr⟩ := r
    refine rn [] rfl (by repeat' (first | exact trivial | exact rfl | refine And.intro ?_ ?_)) ?_
    refine ⟨fun h => ?_, fun h => ?_⟩
    · have hlt : r < l.length := by have : (r : Int) < ((l.length : Nat) : Int) := of_decide_eq_true h; omega
      have hok : tok l[r].1 l[r].2 = true := List.all_eq_true.1 hall _ (List.getElem_mem hlt)
      have e1 := lcells_get l r hlt
      have e2 : (lcells l)[(r : Int).toNat * 2]? = some (.int .i64 l[r].1) := by simpa using e1.1
      have e3 : (lcells l)[(r : Int).toNat * 2 + 1]? = some (.int .i64 l[r].2) := by simpa using e1.2
      have hq : r / 16 < nsec l.length := by unfold nsec; omega
      have w2 : IntKind.i64.wrap ((r : Int) + 1) = ((r + 1 : Nat) : Int) := by rw [wrap_sm (by omega) (by omega)]; omega
      have w3 : IntKind.i64.wrap (2 + (r / 16 : Nat) - 2) = ((r / 16 : Nat) : Int) := by rw [wrap_sm (by omega) (by omega)]; omega
      have hw0 : 0 ≤ IntKind.i64.wrap (2 + (r / 16 : Nat) - 2) := by omega
      have hw1 : IntKind.i64.wrap (2 + (r / 16 : Nat) - 2) < ((nsec l.length : Nat) : Int) := by omega
      have hput := tputOk0 hg r l[r] (by omega) hok
      have hs64 := sec_length (tz_length l r (by omega)) hq
      have e4 : (svs (tsecs (tz l r) (nsec l.length)))[(IntKind.i64.wrap (2 + (r / 16 : Nat) - 2)).toNat * 1]? = some (.string (S (sec (tz l r) (r / 16)))) := by
        rw [w3, Int.toNat_natCast, Nat.mul_one, svs_at (by rw [secs_length]; exact hq), secs_get]
      refine rn [(43, .ld [iT l[r].1, iT l[r].2]), (48, .ret (.tup [.c (iT (2 + (r / 16 : Nat))), patT ((r % 16 * 4 : Nat)) (lw l[r]), .c (iT 0)])), (53, .dec false), (63, .ld [.s (S (sec (tz l r) (r / 16)))]), (66, .spec ⟨.tup [.c (.s (S (one (sec (tz l r) (r / 16)) ((r % 16 * 4 : Nat), S (lw l[r]))))), .c (iT 0)], [], [], []⟩)] rfl ?_ ?_
      · repeat' (first | exact trivial | exact rfl | exact e2 | exact e3 | exact e4 | exact hput | exact patch_lease (sec (tz l r) (r / 16)) hs64 r l[r] hok rfl | exact hw0 | exact hw1 | refine And.intro ?_ ?_)
        all_goals first | omega | decide | (simp only [svs_length, secs_length]; omega)
      · refine roundEnd ⟨r + 1, by omega⟩ [] (by show l.length - (r + 1) < l.length - r; omega) (by (repeat' (first | exact trivial | exact rfl | exact w2 | exact fun _ => w2 | refine And.intro ?_ ?_))) (by (repeat' (first | exact trivial | exact rfl | exact round_svs hlt w3 | exact fun _ => round_svs hlt w3 | refine And.intro ?_ ?_))) rfl
    · have hlt : r = l.length := by have : ¬ (r : Int) < ((l.length : Nat) : Int) := of_decide_eq_false h; omega
      subst hlt
      refine rn [] rfl (by repeat' (first | exact trivial | exact rfl | refine And.intro ?_ ?_)) (roundExit rfl ?_)
      refine rnA [] rfl (by repeat' (first | exact trivial | exact rfl | refine And.intro ?_ ?_)) ?_
      exact retN tysOk [(nx, 2)] rfl (by simp only [retS, SV.eqs, eqsT, TV.eqs, CV.eqs, ren_one]; repeat' (first | exact trivial | exact rfl | refine And.intro ?_ ?_)) (by simp only [newsH, subH, ren_one]; repeat' (first | exact trivial | exact rfl | refine And.intro ?_ ?_)) (by simp [injK, keysH, newsH, inL]) rfl
end Cw
namespace Cw
open Go Vc
open Go.Proofs
set_option maxRecDepth 100000
def gve (x : Ls) (o : Int) : Int := if tok x.1 x.2 = true then (if o < 0 ∨ 2 < o ∨ x.2 = 16777215 then 1 else 0) else 80
def gvx (x : Ls) (o : Int) : Ls := if gve x o = 0 then (o, x.2 + 1) else (0, 0)
/-- Whose leases: the places of an owner's. -/
def held (l : List Ls) (o : Int) (k : Nat) : List Int := ((List.range k).filter fun i => (l.getD i (0, 0)).1 == o).map fun i : Nat => (i : Int)
end Cw
namespace Cw
open Go Vc
open Go.Proofs
set_option maxRecDepth 100000
def dle (s : ByteArray) (o : Nat) : Ls := (((numAt s o 4 % 256 : Nat) : Int), ((numAt s o 4 / 256 : Nat) : Int))
/-- The leases of a table's sectors. -/
def dl (T : List ByteArray) (n : Nat) : List Ls := (List.range n).map fun r => dle (T.getD (r / 16) ⟨#[]⟩) (r % 16 * 4)
theorem dl_length (T : List ByteArray) (n : Nat) : (dl T n).length = n := by simp [dl]
theorem getD_at {T : List ByteArray} {q : Nat} (h : q < T.length) : T.getD q ⟨#[]⟩ = T[q] := by simp [List.getD_eq_getElem?_getD, h]
/-- Sectors that are a table of n regions. -/
def Tdok (T : List ByteArray) (n : Nat) : Prop := (∀ s ∈ T, s.size = 64) ∧ (dl T n).all (fun x => tok x.1 x.2) = true ∧ tsecs (tz (dl T n) n) (nsec n) = T
theorem regions_two {a b c : Int} {n : Nat} (hg : Gok a b c) (hn : gregions a b c = (n : Nat)) : 2 ≤ n ∧ n ≤ 132 := by
  have hrb := regions_bd a b c
  have h := hn
  rw [gregions, if_pos hg] at h
  have := ab_bd hg
  have := hg.1
  omega
end Cw
namespace Cw
open Go Vc
open Go.Proofs
set_option maxRecDepth 100000
theorem lbytes_drop : ∀ (l : List Ls) (r : Nat), (lbytes l).drop (4 * r) = lbytes (l.drop r)
  | l, 0 => by simp
  | [], r + 1 => by simp [lbytes]
  | x :: l, r + 1 => by
    rw [List.drop_succ_cons, ← lbytes_drop l r]
    have : lbytes (x :: l) = lw x ++ lbytes l := rfl
    rw [this, show 4 * (r + 1) = 4 + 4 * r by omega, ← List.drop_drop, List.drop_left' (lw_length x)]
theorem lv_parts {x : Ls} (h : tok x.1 x.2 = true) : (((lv x.1 x.2 % 256 : Nat) : Int), ((lv x.1 x.2 / 256 : Nat) : Int)) = x := by
  obtain ⟨o, s⟩ := x
  have := tok_iff h
  simp only [lv] at *
  refine Prod.ext ?_ ?_
  · show (((o.toNat + 256 * s.toNat) % 256 : Nat) : Int) = o
    omega
  · show (((o.toNat + 256 * s.toNat) / 256 : Nat) : Int) = s
    omega
theorem dle_back (l : List Ls) (hl : l.all (fun x => tok x.1 x.2) = true) (r : Nat) (hr : r < l.length) : dle ((tsecs (tz l l.length) (nsec l.length)).getD (r / 16) ⟨#[]⟩) (r % 16 * 4) = l[r] := by
  have hq : r / 16 < nsec l.length := by unfold nsec; omega
  have hok : tok l[r].1 l[r].2 = true := List.all_eq_true.1 hl _ (List.getElem_mem hr)
  rw [getD_at (by rw [secs_length]; exact hq), secs_get]
  have hn : numAt (S (sec (tz l l.length) (r / 16))) (r % 16 * 4) 4 = lv l[r].1 l[r].2 := by
    unfold numAt
    rw [S_data]
    unfold sec
    rw [List.drop_take, List.take_take, Nat.min_eq_left (by omega), List.drop_drop, show 64 * (r / 16) + r % 16 * 4 = 4 * r by omega]
    unfold tz
    rw [List.take_length, List.drop_append_of_le_length (by rw [lbytes_length]; omega), lbytes_drop, List.drop_eq_getElem_cons hr]
    have : lbytes (l[r] :: l.drop (r + 1)) = lw l[r] ++ lbytes (l.drop (r + 1)) := rfl
    rw [this, List.append_assoc, List.take_left' (lw_length _)]
    exact num_le 4 _ (lv_lt hok)
  unfold dle
  rw [hn]
  exact lv_parts hok
theorem dl_back (l : List Ls) (hl : l.all (fun x => tok x.1 x.2) = true) : dl (tsecs (tz l l.length) (nsec l.length)) l.length = l := by
  apply List.ext_getElem (dl_length _ _)
  intro r h1 h2
  simp only [dl, List.getElem_map, List.getElem_range]
  exact dle_back l hl r h2
theorem tdok_back (l : List Ls) (hl : l.all (fun x => tok x.1 x.2) = true) : Tdok (tsecs (tz l l.length) (nsec l.length)) l.length := by
  have hb := dl_back l hl
  refine ⟨fun s hs => ?_, by rw [hb]; exact hl, by rw [hb]⟩
  simp only [tsecs, List.mem_map, List.mem_range] at hs
  obtain ⟨j, hj, rfl⟩ := hs
  rw [S_size, sec_length (tz_length l l.length (Nat.le_refl _)) hj]
theorem regions_nat (a b c : Int) : gregions a b c = ((gregions a b c).toNat : Nat) := by have := regions_bd a b c; omega
end Cw
namespace Cw
open Go Vc
open Go.Proofs
set_option maxRecDepth 100000
theorem repl_lcells (n : Nat) : (repl n [CV.i .i64 0, CV.i .i64 0]).map (CV.den e0) = lcells (List.replicate n (0, 0)) := by
  rw [repl_map]
  simp [lcells, CV.den]
/-- How many leases are those of the owners below o. -/
def cntH (N : List Ls) : Nat → Nat
  | 0 => 0
  | o + 1 => cntH N o + (held N o N.length).length
structure Hin (N : List Ls) (n i : Nat) : Prop where
  len : N.length = n
  ok : ∀ x ∈ N, (0 ≤ x.1 ∧ x.1 ≤ 2) ∧ 0 ≤ x.2 ∧ x.2 ≤ i
theorem Hin.all {N : List Ls} {n i : Nat} (h : Hin N n i) (hi : i ≤ 60) : N.all (fun x => tok x.1 x.2) = true := by
  rw [List.all_eq_true]
  intro x hx
  have := h.ok x hx
  simp only [tok, decide_eq_true_eq]
  omega
theorem Hin.next {N : List Ls} {n i r : Nat} {o : Int} (h : Hin N n i) (hr : r < N.length) (h0 : 0 ≤ o ∧ o ≤ 2) : Hin (N.set r (o, N[r].2 + 1)) n (i + 1) := by
  refine ⟨by rw [List.length_set]; exact h.len, fun x hx => ?_⟩
  rcases List.mem_or_eq_of_mem_set hx with hx | rfl
  · have := h.ok x hx; omega
  · have := h.ok _ (List.getElem_mem hr)
    exact ⟨h0, by simp only; omega⟩
end Cw
