/- Bytes of numbers; make of bytes; bits. No program's function stands here. -/
import Derived.Test.YtmcnoekpblkpdaaDoorOrd
namespace Go.Proofs.YtmcnoekpblkpdaaDoor
open Go.RowKit

/-- The k lowest bytes of a number, the highest of them first. -/
def be : Nat → Nat → List UInt8
  | 0, _ => []
  | k + 1, n => UInt8.ofNat (n / 256 ^ k) :: be k n
theorem be_length : ∀ k n, (be k n).length = k
  | 0, _ => rfl
  | k + 1, n => by simp [be, be_length k n]

theorem bits_or_u8 (a b : Nat) (ha : a < 256) (hb : b < 256) : bits .or .u8 (a : Int) (b : Int) = ((a ||| b : Nat) : Int) := by
  have h : a ||| b < 256 := Nat.or_lt_two_pow (n := 8) ha hb
  show IntKind.u8.wrap ((BitVec.ofInt 8 (a : Int) ||| BitVec.ofInt 8 (b : Int)).toNat : Int) = _
  rw [BitVec.ofInt_natCast, BitVec.ofInt_natCast, BitVec.toNat_or, BitVec.toNat_ofNat, BitVec.toNat_ofNat, Nat.mod_eq_of_lt ha, Nat.mod_eq_of_lt hb, IntKind.wrap_u8]
  omega

theorem num_byte (n i : Nat) : (n : Int) / 2 ^ (8 * i) % 256 = ((UInt8.ofNat (n / 256 ^ i)).toNat : Int) := by
  have h : (2 : Int) ^ (8 * i) = ((256 ^ i : Nat) : Int) := by
    rw [Int.pow_mul]; simp
  rw [h, UInt8.toNat_ofNat', ← Int.natCast_ediv]
  simp
theorem byteInfo : (Tryd.prog.info? 5).map (fun i => (i.zero, i.size, i.bytes)) = some (some (.int .u8 0), 1, 1) := by kernel_rfl
theorem made_bytes (n : Nat) : madeCells (Value.cells (.int .u8 0)) (n * 1) = (List.replicate n (Value.int .u8 0)).toArray := by
  apply Array.ext
  · simp [size_madeCells]
  · intro i h1 h2
    simp [madeCells, Value.cells, Nat.mod_one]
theorem make_bytes (n : Nat) (hn : n ≤ 1000000) (w : World) : (Instr.makeSlice 31 (.int .i64 n) (.int .i64 n)).run Tryd.prog w = .ok (.slice (some ⟨w.heap.size, 0, none⟩) n n) (w.alloc (.cells (List.replicate n (Value.int .u8 0)).toArray 5)) := by
  have h := byteInfo
  cases hq : Tryd.prog.info? 5 with
  | none => rw [hq] at h; cases h
  | some i =>
    rw [hq] at h
    simp only [Option.map_some, Option.some.injEq, Prod.mk.injEq] at h
    obtain ⟨h1, h2, h3⟩ := h
    have := run_make (P := Tryd.prog) w 31 5 i (.int .u8 0) Tryd.underlying31 hq h1 .i64 .i64 n n (by omega) (Int.le_refl _) (by rw [h3]; omega) (by omega)
    rw [this, h2, Int.toNat_natCast, made_bytes]
/-- The number behind its first byte and so many more. -/
def foldN (a : Nat) (l : List UInt8) : Nat := l.foldl (fun n c => n * 256 + c.toNat) a
theorem foldN_snoc (a : Nat) (l : List UInt8) (c : UInt8) : foldN a (l ++ [c]) = foldN a l * 256 + c.toNat := by simp [foldN]
theorem foldN_lt : ∀ (l : List UInt8) (a e : Nat), a < 2 ^ e → foldN a l < 2 ^ (e + 8 * l.length)
  | [], a, e, ha => by simpa [foldN] using ha
  | c :: l, a, e, ha => by
    have hc := c.toNat_lt
    have h := foldN_lt l (a * 256 + c.toNat) (e + 8) (by rw [Nat.pow_add]; omega)
    have e1 : e + 8 * (c :: l).length = e + 8 + 8 * l.length := by simp; omega
    rw [e1]
    exact h
theorem bits_or_u64 (a b : Nat) (ha : a < 18446744073709551616) (hb : b < 18446744073709551616) : bits .or .u64 (a : Int) (b : Int) = ((a ||| b : Nat) : Int) := by
  have h : a ||| b < 2 ^ 64 := Nat.or_lt_two_pow (n := 64) ha hb
  show IntKind.u64.wrap ((BitVec.ofInt 64 (a : Int) ||| BitVec.ofInt 64 (b : Int)).toNat : Int) = _
  rw [BitVec.ofInt_natCast, BitVec.ofInt_natCast, BitVec.toNat_or, BitVec.toNat_ofNat, BitVec.toNat_ofNat, Nat.mod_eq_of_lt ha, Nat.mod_eq_of_lt hb, IntKind.wrap_u64]
  omega
theorem or_add (a b : Nat) (hb : b < 256) : a * 256 ||| b = a * 256 + b := by
  have := Nat.shiftLeft_add_eq_or_of_lt (i := 8) (b := b) hb a
  rw [Nat.shiftLeft_eq] at this
  exact this.symm
theorem fold_be : ∀ (k n : Nat), foldN (n / 256 ^ k) (be k n) = n
  | 0, n => by simp [foldN, be]
  | k + 1, n => by
    have ih := fold_be k n
    have e : n / 256 ^ (k + 1) * 256 + (UInt8.ofNat (n / 256 ^ k)).toNat = n / 256 ^ k := by
      rw [UInt8.toNat_ofNat', Nat.pow_succ, ← Nat.div_div_eq_div_mul]
      omega
    simp only [be, foldN, List.foldl_cons] at ih ⊢
    rw [e]
    exact ih
theorem bits_or_u32 (a b : Nat) (ha : a < 4294967296) (hb : b < 4294967296) : bits .or .u32 (a : Int) (b : Int) = ((a ||| b : Nat) : Int) := by
  have h : a ||| b < 2 ^ 32 := Nat.or_lt_two_pow (n := 32) ha hb
  show IntKind.u32.wrap ((BitVec.ofInt 32 (a : Int) ||| BitVec.ofInt 32 (b : Int)).toNat : Int) = _
  rw [BitVec.ofInt_natCast, BitVec.ofInt_natCast, BitVec.toNat_or, BitVec.toNat_ofNat, BitVec.toNat_ofNat, Nat.mod_eq_of_lt ha, Nat.mod_eq_of_lt hb, show IntKind.u32.wrap ((a ||| b : Nat) : Int) = ((a ||| b : Nat) : Int) % 4294967296 by simp [IntKind.wrap, IntKind.bits, IntKind.signed]]
  omega

theorem str_at (s : List UInt8) (ss : ByteArray) (h : strOf s = ss) (j : Nat) (hj : j < s.length) (hj' : j < ss.size) : ss[j] = s[j] := by
  subst h; rfl
theorem shift_add {a c : Nat} (ha : a < 72057594037927936) (hc : c < 256) : bits .or .u64 (IntKind.u64.wrap ((a : Int) * 256)) (IntKind.u64.wrap (c : Int)) = ((a * 256 + c : Nat) : Int) := by
  have e1 : IntKind.u64.wrap ((a : Int) * 256) = ((a * 256 : Nat) : Int) := by rw [IntKind.wrap_u64]; omega
  have e2 : IntKind.u64.wrap (c : Int) = (c : Int) := by rw [IntKind.wrap_u64]; omega
  rw [e1, e2, bits_or_u64 _ _ (by omega) (by omega), or_add _ _ hc]
/-- A block of k bytes of which the i last ones are written. -/
def bufCells (k n i : Nat) : List Value := List.replicate (k - i) (.int .u8 0) ++ byteCells (be i n)
theorem bufCells_length (k n i : Nat) (h : i ≤ k) : (bufCells k n i).length = k := by simp [bufCells, byteCells_length, be_length]; omega
theorem bufCells_set (k n i : Nat) (h : i < k) : (bufCells k n i).set (k - 1 - i) (.int .u8 ((n : Int) / 2 ^ (8 * i) % 256)) = bufCells k n (i + 1) := by
  rw [num_byte]
  obtain ⟨m, hm⟩ : ∃ m, k - i = m + 1 := ⟨k - i - 1, by omega⟩
  unfold bufCells
  rw [hm, show k - 1 - i = m by omega, show k - (i + 1) = m by omega]
  simp only [be, byteCells, List.map_cons]
  rw [List.replicate_succ', List.append_assoc, List.set_append_right _ _ (by simp)]
  simp
theorem bufCells_get (k n i j : Nat) (h : i ≤ k) (hj : j < k) : ∃ v, (bufCells k n i)[j]? = some v :=
  ⟨_, List.getElem?_eq_getElem (by rw [bufCells_length k n i h]; omega)⟩
theorem bufCells_0 (k n : Nat) : bufCells k n 0 = List.replicate k (Value.int .u8 0) := by simp [bufCells, be, byteCells]
theorem bufCells_all (k n : Nat) : bufCells k n k = byteCells (be k n) := by simp [bufCells]
end Go.Proofs.YtmcnoekpblkpdaaDoor
