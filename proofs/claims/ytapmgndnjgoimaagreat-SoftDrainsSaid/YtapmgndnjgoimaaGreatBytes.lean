/- Bytes in memory: a slice of the call's own that holds a list of bytes; its text. No program in sight. -/
import Derived.Test.YtapmgndnjgoimaaGreatBase
import Derived.Test.YtapmgndnjgoimaaGreatFieldSpec
import Derived.Lib.ConvBytes
namespace Cw
open Go Go.RowKit

def bcells (l : List UInt8) : List Value := l.map fun b => .int .u8 b.toNat
theorem bcells_length (l : List UInt8) : (bcells l).length = l.length := by simp [bcells]
theorem bcells_snoc (l : List UInt8) (b : UInt8) : bcells (l ++ [b]) = bcells l ++ [.int .u8 b.toNat] := by simp [bcells]

theorem foldl_push (l : List UInt8) : ∀ s : ByteArray, (l.map fun b : UInt8 => (b.toNat : Int)).foldl (fun r n => r.push (UInt8.ofNat n.toNat)) s = ⟨s.data ++ l.toArray⟩ := by
  induction l with
  | nil => intro s; simp
  | cons b l ih =>
    intro s
    simp only [List.map_cons, List.foldl_cons]
    rw [ih]
    simp [ByteArray.push]

/-- 'string(b)', b a slice over cells that hold the bytes l. -/
theorem run_str {P : Program} (w : World) (src dst e : TypeId) (hs : P.underlying src = some (.slice e)) (he : P.underlying e = some (.int .u8)) (hd : P.underlying dst = some .string)
    (a : Addr) (l : List UInt8) (c : Nat) (h : ∀ j v, (bcells l)[j]? = some v → w.cell? (a.add j) = some v) :
    (convert src dst (.slice (some a) l.length c)).run P w = .ok (.string (S l)) w := by
  rw [run_convert_bytes_string w src dst e (some a) l.length c hs he hd]
  have hl := run_loadCells_list (P := P) w a (bcells l) h
  rw [bcells_length] at hl
  rw [run_bytesToString w a l.length c (l.map fun b : UInt8 => (b.toNat : Int)) (by rw [hl]; simp [bcells])]
  rw [foldl_push]
  simp [S]

theorem run_str_own {P : Program} (w : World) (src dst e : TypeId) (hs : P.underlying src = some (.slice e)) (he : P.underlying e = some (.int .u8)) (hd : P.underlying dst = some .string)
    {base : Nat} {v : Value} (l : List UInt8) (h : w.ownsRow base e 1 v l.length (bcells l)) : (convert src dst v).run P w = .ok (.string (S l)) w := by
  rcases h.2 with ⟨rfl, h0⟩ | ⟨g, cap, cur, rfl, _⟩
  · have : l = [] := List.eq_nil_of_length_eq_zero h0
    subst this
    rw [run_convert_bytes_string w src dst e none 0 0 hs he hd]
    simp [Conv.bytesToString, S]
    rfl
  · exact run_str w src dst e hs he hd _ l cap (h.cells (g := g) rfl)

/-- 'string(b)', b the whole of a block that has just been laid and written. -/
theorem run_str_lit {P : Program} (src dst e : TypeId) (hs : P.underlying src = some (.slice e)) (he : P.underlying e = some (.int .u8)) (hd : P.underlying dst = some .string)
    (W : World) (ns : List Int) (c : Nat) : (convert src dst (.slice (some ⟨W.heap.size, 0, none⟩) ns.length c)).run P (W.alloc (.cells (ns.map (Value.int .u8)).toArray e)) =
      .ok (.string (S (ns.map fun n => UInt8.ofNat n.toNat))) (W.alloc (.cells (ns.map (Value.int .u8)).toArray e)) := by
  rw [run_convert_bytes_string _ src dst e _ ns.length c hs he hd]
  have hl := run_loadCells_list (P := P) (W.alloc (.cells (ns.map (Value.int .u8)).toArray e)) ⟨W.heap.size, 0, none⟩ (ns.map (Value.int .u8)) (fun j v hv => by
    have hadd : (⟨W.heap.size, 0, none⟩ : Addr).add j = ⟨W.heap.size, j, none⟩ := by unfold Addr.add; split <;> simp_all
    rw [hadd, cell_of_row _ W.heap.size j _ e (0, 0) (heap_alloc_new W _)]
    simpa using hv)
  rw [List.length_map] at hl
  rw [run_bytesToString _ _ ns.length c ns (by rw [hl])]
  have key : ∀ (l : List Int) (s : ByteArray), l.foldl (fun r n => r.push (UInt8.ofNat n.toNat)) s = ⟨s.data ++ (l.map fun n => UInt8.ofNat n.toNat).toArray⟩ := by
    intro l
    induction l with
    | nil => intro s; simp
    | cons b l ih => intro s; simp only [List.foldl_cons]; rw [ih]; simp [ByteArray.push]
  rw [key]
  simp [S]

theorem pow256 (k : Nat) : (256 : Nat) ^ k = 2 ^ (8 * k) := by rw [show (256 : Nat) = 2 ^ 8 from rfl, ← Nat.pow_mul]
theorem shr_byte (x k : Nat) (hk : k ≤ 8) : IntKind.u8.wrap ((x : Int) / 2 ^ min (8 * k) 64) = ((UInt8.ofNat (x / 256 ^ k)).toNat : Int) := by
  rw [IntKind.wrap_u8, show min (8 * k) 64 = 8 * k by omega, pow256]
  rw [show ((x : Int) / 2 ^ (8 * k)) = ((x / 2 ^ (8 * k) : Nat) : Int) by push_cast; rfl]
  simp only [UInt8.toNat_ofNat']
  omega
theorem shr_byte' (x k : Nat) (hk : k ≤ 8) : (x : Int) / 2 ^ (8 * k) % 256 = ((UInt8.ofNat (x / 256 ^ k)).toNat : Int) := by
  rw [← shr_byte x k hk, IntKind.wrap_u8, show min (8 * k) 64 = 8 * k by omega]
theorem le_succ (n x : Nat) : le (n + 1) x = le n x ++ [UInt8.ofNat (x / 256 ^ n)] := by simp [le, List.range_succ]
theorem le_length (n x : Nat) : (le n x).length = n := by simp [le]
theorem ofNat_mod (x : Nat) : UInt8.ofNat (x % 256) = UInt8.ofNat x := by
  apply UInt8.toNat_inj.1
  simp only [UInt8.toNat_ofNat']
  omega
theorem le1 (x : Nat) : S [UInt8.ofNat x] = S (le 1 x) := by simp [le, List.range_succ]
theorem le2 (x : Nat) : S [UInt8.ofNat (x % 256), UInt8.ofNat (x / 256)] = S (le 2 x) := by simp [le, List.range_succ, ofNat_mod]
theorem le4 (x : Nat) : S [UInt8.ofNat (x % 256), UInt8.ofNat (x / 256 % 256), UInt8.ofNat (x / 65536 % 256), UInt8.ofNat (x / 16777216)] = S (le 4 x) := by simp [le, List.range_succ, ofNat_mod]
end Cw
