/- The walks of the program's package inode, by reckoning: Encode, Decode. -/
import Derived.Test.YtigaallhjlmhbaaInoV
namespace Cw
open Go Vc
open Go.Proofs
set_option maxRecDepth 100000
def pat (o b n : Int) : Pt := (putoff o b n, S (putb o b n))
def ipats (n : Ino) : List Pt := [pat 0 1 n.k, pat 1 1 n.l, pat 2 2 n.z, pat 4 2 n.p, pat 6 2 n.g, pat 24 2 n.m, pat 8 2 (n.d 0), pat 10 2 (n.d 1), pat 12 2 (n.d 2), pat 14 2 (n.d 3), pat 16 2 (n.d 4), pat 18 2 (n.d 5), pat 20 2 (n.d 6), pat 22 2 (n.d 7)]
theorem pat_size (o b n : Int) : (pat o b n).2.size ≤ 9223372036854775807 := by
  simp only [pat, S_size, putb]
  split
  · rename_i h
    rw [le_length]
    rcases h.1 with h | h | h <;> subst h <;> decide
  · simp
theorem ipats_size (n : Ino) : ∀ p ∈ ipats n, p.2.size ≤ 9223372036854775807 := by
  intro p hp
  simp only [ipats, List.mem_cons, List.not_mem_nil, or_false] at hp
  rcases hp with rfl | rfl | rfl | rfl | rfl | rfl | rfl | rfl | rfl | rfl | rfl | rfl | rfl | rfl <;> exact pat_size _ _ _
theorem B0_size : B0.size = 64 := by decide
def ienc (a b c : Int) (n : Ino) : ByteArray := if ichk a b c n = 0 then pt B0 (ipats n) else ⟨#[]⟩
def ience (a b c : Int) (n : Ino) : Int := if ichk a b c n = 0 then pte B0 (ipats n) else ichk a b c n
theorem ienc0 (a b c : Int) (n : Ino) : Fn0 Try.prog 31 [geoT a b c, inoT n] (.tup [.c (.s (ienc a b c n)), .c (iT (ience a b c n))]) := by
  refine fn0 (fn := Try.f31) 55 rfl rfl rfl rfl rfl fun w => ?_
  refine rn [(12, .ret (.t (.c (iT (ichk a b c n)))))] rfl (by (repeat' (first | exact trivial | exact rfl | exact icheck0 a b c n | exact fun _ => icheck0 a b c n | refine And.intro ?_ ?_))) ?_
  refine ⟨fun h => ?_, fun h => ?_⟩
  · have hz : ichk a b c n ≠ 0 := by simpa using h
    refine rn [] rfl trivial ?_
    refine ret0 tysOk rfl ⟨?_, ?_, trivial⟩ rfl
    · rw [ienc, if_neg hz]
    · rw [ience, if_neg hz]
  have hz : ichk a b c n = 0 := by simpa using h
  have e1 : ienc a b c n = pt B0 (ipats n) := by rw [ienc, if_pos hz]
  have e2 : ience a b c n = pte B0 (ipats n) := by rw [ience, if_pos hz]
  refine rn [(18, .ret (.t (patT (putoff 0 1 n.k) (putb 0 1 n.k)))), (21, .ret (.t (patT (putoff 1 1 n.l) (putb 1 1 n.l)))), (24, .ret (.t (patT (putoff 2 2 n.z) (putb 2 2 n.z)))), (27, .ret (.t (patT (putoff 4 2 n.p) (putb 4 2 n.p)))), (30, .ret (.t (patT (putoff 6 2 n.g) (putb 6 2 n.g)))), (33, .ret (.t (patT (putoff 24 2 n.m) (putb 24 2 n.m))))] rfl (by (repeat' (first | exact trivial | exact rfl | exact inum0 _ _ _ | exact fun _ => inum0 _ _ _ | decide | refine And.intro ?_ ?_))) ?_
  refine At.unroll ?_
  refine rn [(38, .dec true), (46, .ret (.t (patT (putoff 8 2 (n.d 0)) (putb 8 2 (n.d 0)))))] rfl (by (repeat' (first | exact trivial | exact rfl | exact inum0 8 2 (n.d 0) | exact fun _ => inum0 8 2 (n.d 0) | decide | refine And.intro ?_ ?_))) (nextRound ?_)
  refine rn [(38, .dec true), (46, .ret (.t (patT (putoff 10 2 (n.d 1)) (putb 10 2 (n.d 1)))))] rfl (by (repeat' (first | exact trivial | exact rfl | exact inum0 10 2 (n.d 1) | exact fun _ => inum0 10 2 (n.d 1) | decide | refine And.intro ?_ ?_))) (nextRound ?_)
  refine rn [(38, .dec true), (46, .ret (.t (patT (putoff 12 2 (n.d 2)) (putb 12 2 (n.d 2)))))] rfl (by (repeat' (first | exact trivial | exact rfl | exact inum0 12 2 (n.d 2) | exact fun _ => inum0 12 2 (n.d 2) | decide | refine And.intro ?_ ?_))) (nextRound ?_)
  refine rn [(38, .dec true), (46, .ret (.t (patT (putoff 14 2 (n.d 3)) (putb 14 2 (n.d 3)))))] rfl (by (repeat' (first | exact trivial | exact rfl | exact inum0 14 2 (n.d 3) | exact fun _ => inum0 14 2 (n.d 3) | decide | refine And.intro ?_ ?_))) (nextRound ?_)
  refine rn [(38, .dec true), (46, .ret (.t (patT (putoff 16 2 (n.d 4)) (putb 16 2 (n.d 4)))))] rfl (by (repeat' (first | exact trivial | exact rfl | exact inum0 16 2 (n.d 4) | exact fun _ => inum0 16 2 (n.d 4) | decide | refine And.intro ?_ ?_))) (nextRound ?_)
  refine rn [(38, .dec true), (46, .ret (.t (patT (putoff 18 2 (n.d 5)) (putb 18 2 (n.d 5)))))] rfl (by (repeat' (first | exact trivial | exact rfl | exact inum0 18 2 (n.d 5) | exact fun _ => inum0 18 2 (n.d 5) | decide | refine And.intro ?_ ?_))) (nextRound ?_)
  refine rn [(38, .dec true), (46, .ret (.t (patT (putoff 20 2 (n.d 6)) (putb 20 2 (n.d 6)))))] rfl (by (repeat' (first | exact trivial | exact rfl | exact inum0 20 2 (n.d 6) | exact fun _ => inum0 20 2 (n.d 6) | decide | refine And.intro ?_ ?_))) (nextRound ?_)
  refine rn [(38, .dec true), (46, .ret (.t (patT (putoff 22 2 (n.d 7)) (putb 22 2 (n.d 7)))))] rfl (by (repeat' (first | exact trivial | exact rfl | exact inum0 22 2 (n.d 7) | exact fun _ => inum0 22 2 (n.d 7) | decide | refine And.intro ?_ ?_))) (nextRound ?_)
  refine rn [(38, .dec false)] rfl (by repeat' (first | exact trivial | exact rfl | refine And.intro ?_ ?_)) (nextExit rfl ?_)
  refine rnA [(50, .ret (.t (.c (.s B0)))), (52, .spec ⟨.tup [.c (.s (pt B0 (ipats n))), .c (iT (pte B0 (ipats n)))], [], [], []⟩)] rfl (by (repeat' (first | exact trivial | exact rfl | exact blank0 | exact fun _ => blank0 | exact patched_own B0 (ipats n) (ipats_size n) (by rw [B0_size]; decide) rfl rfl | refine And.intro ?_ ?_))) ?_
  rw [e1, e2]
  exact ret0 tysOk rfl ⟨rfl, rfl, trivial⟩ rfl
/-- The numbers of a sector. -/
def dn (s : ByteArray) : Ino := ⟨(getn s 0 1 : Nat), (getn s 1 1 : Nat), (getn s 2 2 : Nat), (getn s 4 2 : Nat), (getn s 6 2 : Nat), fun i => [((getn s 8 2 : Nat) : Int), (getn s 10 2 : Nat), (getn s 12 2 : Nat), (getn s 14 2 : Nat), (getn s 16 2 : Nat), (getn s 18 2 : Nat), (getn s 20 2 : Nat), (getn s 22 2 : Nat)].getD i 0, (getn s 24 2 : Nat)⟩
def iz : Ino := ⟨0, 0, 0, 0, 0, fun _ => 0, 0⟩
def idok (a b c : Int) (s : ByteArray) : Prop := s.size = 64 ∧ ience a b c (dn s) = 0 ∧ ienc a b c (dn s) = s
instance (a b c : Int) (s : ByteArray) : Decidable (idok a b c s) := by unfold idok; infer_instance
def idec (a b c : Int) (s : ByteArray) : Ino := if Gok a b c ∧ idok a b c s then dn s else iz
def idece (a b c : Int) (s : ByteArray) : Int := if Gok a b c then (if idok a b c s then 0 else 60) else 4
theorem get_h (s : ByteArray) (hs : s.size ≤ 9223372036854775807) (o n : Int) {H : HL} {nx k : Nat} {b : Bool} (hk : lookH H k = some (b, .cells [.s s] 9)) : FnH Try.prog 75 [.c (iT o), .c (iT n), .c (.p k 0)] H nx ⟨.t (.c (iT (getn s o n : Nat))), [], [], []⟩ := by
  refine fnR (fn := Try.f75) 16 rfl rfl rfl (args' := [.c (iT o), .c (iT n), .c (.p 0 0)]) (H' := [(0, some (false, .cells [.s s] 9))]) (nx' := 1) (fun e w M => ⟨_, mem_one hk M (by repeat' (first | exact trivial | exact rfl | refine And.intro ?_ ?_)), rfl⟩) rfl rfl rfl rfl fun w => ?_
  refine rn [(12, .ret (.tup [.c (iT (getn s o n : Nat)), .c (iT (gete s.size o n))]))] rfl (by (repeat' (first | exact trivial | exact rfl | exact get0 s o n hs | exact fun _ => get0 s o n hs | refine And.intro ?_ ?_))) ?_
  exact ret0 tysOk rfl ⟨rfl, trivial⟩ rfl
theorem idec0 (a b c : Int) (s : ByteArray) (hs : s.size ≤ 9223372036854775807) : Fn0 Try.prog 44 [geoT a b c, .c (.s s)] (.tup [inoT (idec a b c s), .c (iT (idece a b c s))]) := by
  refine fn0 (fn := Try.f44) 63 rfl rfl rfl rfl rfl fun w => ?_
  refine rn [(13, .ret (.t (.c (iT (gcheck a b c)))))] rfl (by (repeat' (first | exact trivial | exact rfl | exact check0 a b c | exact fun _ => check0 a b c | refine And.intro ?_ ?_))) ?_
  refine ⟨fun h => ?_, fun h => ?_⟩
  · have hg := gc_true h
    refine rn [] rfl (by repeat' (first | exact trivial | exact rfl | refine And.intro ?_ ?_)) ?_
    rw [idec, if_neg (fun h => hg h.1), idece, if_neg hg]
    exact ret0 tysOk rfl (by (repeat' (first | exact trivial | exact rfl | exact (by rw [gcheck, if_neg hg] : gcheck a b c = 4) | exact fun _ => (by rw [gcheck, if_neg hg] : gcheck a b c = 4) | refine And.intro ?_ ?_))) rfl
  have hg := gc_false h
  refine rn [] rfl (by repeat' (first | exact trivial | exact rfl | refine And.intro ?_ ?_)) ?_
  refine ⟨fun h => ?_, fun h => ?_⟩
  · have hz : ¬ idok a b c s := fun hd => by
      have := hd.1
      simp [this] at h
    refine rn [] rfl (by repeat' (first | exact trivial | exact rfl | refine And.intro ?_ ?_)) ?_
    rw [idec, if_neg (fun h => hz h.2), idece, if_pos hg, if_neg hz]
    exact ret0 tysOk rfl (by repeat' (first | exact trivial | exact rfl | refine And.intro ?_ ?_)) rfl
  have hz : s.size = 64 := by
    simp at h
    omega
  clear h
  refine rn [(24, .spec ⟨.t (.c (iT (getn s 0 1 : Nat))), [], [], []⟩), (26, .spec ⟨.t (.c (iT (getn s 1 1 : Nat))), [], [], []⟩), (28, .spec ⟨.t (.c (iT (getn s 2 2 : Nat))), [], [], []⟩), (30, .spec ⟨.t (.c (iT (getn s 4 2 : Nat))), [], [], []⟩), (32, .spec ⟨.t (.c (iT (getn s 6 2 : Nat))), [], [], []⟩), (34, .spec ⟨.t (.c (iT (getn s 24 2 : Nat))), [], [], []⟩)] rfl (by (repeat' (first | exact trivial | exact rfl | exact get_h s hs _ _ rfl | exact fun _ => get_h s hs _ _ rfl | decide | refine And.intro ?_ ?_))) ?_
  refine At.unroll ?_
  refine rn [(37, .dec true), (44, .spec ⟨.t (.c (iT (getn s 8 2 : Nat))), [], [], []⟩)] rfl (by (repeat' (first | exact trivial | exact rfl | exact get_h s hs 8 2 rfl | exact fun _ => get_h s hs 8 2 rfl | decide | refine And.intro ?_ ?_))) (nextRound ?_)
  refine rn [(37, .dec true), (44, .spec ⟨.t (.c (iT (getn s 10 2 : Nat))), [], [], []⟩)] rfl (by (repeat' (first | exact trivial | exact rfl | exact get_h s hs 10 2 rfl | exact fun _ => get_h s hs 10 2 rfl | decide | refine And.intro ?_ ?_))) (nextRound ?_)
  refine rn [(37, .dec true), (44, .spec ⟨.t (.c (iT (getn s 12 2 : Nat))), [], [], []⟩)] rfl (by (repeat' (first | exact trivial | exact rfl | exact get_h s hs 12 2 rfl | exact fun _ => get_h s hs 12 2 rfl | decide | refine And.intro ?_ ?_))) (nextRound ?_)
  refine rn [(37, .dec true), (44, .spec ⟨.t (.c (iT (getn s 14 2 : Nat))), [], [], []⟩)] rfl (by (repeat' (first | exact trivial | exact rfl | exact get_h s hs 14 2 rfl | exact fun _ => get_h s hs 14 2 rfl | decide | refine And.intro ?_ ?_))) (nextRound ?_)
  refine rn [(37, .dec true), (44, .spec ⟨.t (.c (iT (getn s 16 2 : Nat))), [], [], []⟩)] rfl (by (repeat' (first | exact trivial | exact rfl | exact get_h s hs 16 2 rfl | exact fun _ => get_h s hs 16 2 rfl | decide | refine And.intro ?_ ?_))) (nextRound ?_)
  refine rn [(37, .dec true), (44, .spec ⟨.t (.c (iT (getn s 18 2 : Nat))), [], [], []⟩)] rfl (by (repeat' (first | exact trivial | exact rfl | exact get_h s hs 18 2 rfl | exact fun _ => get_h s hs 18 2 rfl | decide | refine And.intro ?_ ?_))) (nextRound ?_)
  refine rn [(37, .dec true), (44, .spec ⟨.t (.c (iT (getn s 20 2 : Nat))), [], [], []⟩)] rfl (by (repeat' (first | exact trivial | exact rfl | exact get_h s hs 20 2 rfl | exact fun _ => get_h s hs 20 2 rfl | decide | refine And.intro ?_ ?_))) (nextRound ?_)
  refine rn [(37, .dec true), (44, .spec ⟨.t (.c (iT (getn s 22 2 : Nat))), [], [], []⟩)] rfl (by (repeat' (first | exact trivial | exact rfl | exact get_h s hs 22 2 rfl | exact fun _ => get_h s hs 22 2 rfl | decide | refine And.intro ?_ ?_))) (nextRound ?_)
  refine rn [(37, .dec false)] rfl (by repeat' (first | exact trivial | exact rfl | refine And.intro ?_ ?_)) (nextExit rfl ?_)
  refine rnA [(51, .ret (.tup [.c (.s (ienc a b c (dn s))), .c (iT (ience a b c (dn s)))]))] rfl (by (repeat' (first | exact trivial | exact rfl | exact ienc0 a b c (dn s) | exact fun _ => ienc0 a b c (dn s) | refine And.intro ?_ ?_))) ?_
  refine ⟨fun h => ?_, fun h => ?_⟩
  · have hn : ¬ idok a b c s := fun hd => by
      simp [hd.2.1, hd.2.2, polB] at h
    refine rn [] rfl (by repeat' (first | exact trivial | exact rfl | refine And.intro ?_ ?_)) ?_
    rw [idec, if_neg (fun h => hn h.2), idece, if_pos hg, if_neg hn]
    exact ret0 tysOk rfl (by repeat' (first | exact trivial | exact rfl | refine And.intro ?_ ?_)) rfl
  · have hd : idok a b c s := by
      refine ⟨hz, ?_⟩
      simp [polB] at h
      exact ⟨h.1, bt_inj h.2⟩
    refine rn [] rfl (by repeat' (first | exact trivial | exact rfl | refine And.intro ?_ ?_)) ?_
    rw [idec, if_pos ⟨hg, hd⟩, idece, if_pos hg, if_pos hd]
    exact ret0 tysOk rfl (by repeat' (first | exact trivial | exact rfl | refine And.intro ?_ ?_)) rfl
end Cw
