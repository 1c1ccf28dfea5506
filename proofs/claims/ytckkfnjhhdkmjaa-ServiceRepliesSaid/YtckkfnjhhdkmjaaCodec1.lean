/- codec: more, ones, Num. -/
import Derived.Test.YtckkfnjhhdkmjaaOrd
import Derived.Test.YtckkfnjhhdkmjaaBits
namespace Go.Proofs.Ytckkfnjhhdkmjaa
open Go.RowKit

/-- How many bytes more than one a number has. -/
def moreN (n : Nat) : Nat := min ((Lib.bitLen n - 1) / 7) 8
theorem moreN_le (n : Nat) : moreN n ≤ 8 := by unfold moreN; omega
def onesN (k : Nat) : Nat := 255 - 255 / 2 ^ k
/-- The k lowest bytes of a number, the highest of them first. -/
def be : Nat → Nat → List UInt8
  | 0, _ => []
  | k + 1, n => UInt8.ofNat (n / 256 ^ k) :: be k n
theorem be_length : ∀ k n, (be k n).length = k
  | 0, _ => rfl
  | k + 1, n => by simp [be, be_length k n]

set_option maxHeartbeats 400000 in
theorem more_any (n : Int) (m : Nat) (hn : n = (m : Int)) (hm : m < 18446744073709551616) (w : World) : Calls Try.prog 17 #[.int .u64 n] w fun e w' => e = .returned (.int .i64 (moreN m)) ∧ w = w' := by
  have hb : Lib.bitLen m ≤ 64 := Lib.bitLen_le m 64 (by omega) (by omega)
  have hl := fun w => bits_Len64 n w (by omega) (by omega)
  have e0 : n.toNat = m := by omega
  rw [e0] at hl
  subst hn
  clear hm e0
  go_enter Try.func17, Try.ntmps17
  go_wp2_with fail
  refine (hl _).mono ?_
  rintro e w' ⟨rfl, rfl⟩
  generalize hx : Lib.bitLen m = x at *
  have HX := Lib.hid hx
  clear hx
  go_wp2_with fail
  go_ret
  exact ⟨ret_int (by unfold moreN; rw [HX.out]; omega), rfl⟩

theorem ones_bits (k : Nat) (hk : k ≤ 8) : bits .xor .u8 IntKind.u8.max ((255 : Int) / 2 ^ k) = (onesN k : Int) := by
  have h : k = 0 ∨ k = 1 ∨ k = 2 ∨ k = 3 ∨ k = 4 ∨ k = 5 ∨ k = 6 ∨ k = 7 ∨ k = 8 := by omega
  rcases h with rfl | rfl | rfl | rfl | rfl | rfl | rfl | rfl | rfl <;> decide

set_option maxHeartbeats 400000 in
theorem ones_any (n : Int) (k : Nat) (hn : n = (k : Int)) (hk : k ≤ 8) (w : World) : Calls Try.prog 16 #[.int .i64 n] w fun e w' => e = .returned (.int .u8 (onesN k)) ∧ w = w' := by
  subst hn
  go_enter Try.func16, Try.ntmps16
  go_wp2
  go_ret
  exact ⟨ret_int (ones_bits k hk), rfl⟩

theorem bits_or_u8 (a b : Nat) (ha : a < 256) (hb : b < 256) : bits .or .u8 (a : Int) (b : Int) = ((a ||| b : Nat) : Int) := by
  have h : a ||| b < 256 := Nat.or_lt_two_pow (n := 8) ha hb
  show IntKind.u8.wrap ((BitVec.ofInt 8 (a : Int) ||| BitVec.ofInt 8 (b : Int)).toNat : Int) = _
  rw [BitVec.ofInt_natCast, BitVec.ofInt_natCast, BitVec.toNat_or, BitVec.toNat_ofNat, BitVec.toNat_ofNat, Nat.mod_eq_of_lt ha, Nat.mod_eq_of_lt hb, IntKind.wrap_u8]
  omega

/-- A block of k + 1 bytes of which the i last ones are written. -/
def numCells (k n i : Nat) : List Value := .int .u8 0 :: (List.replicate (k - i) (.int .u8 0) ++ byteCells (be i n))
theorem numCells_length (k n i : Nat) (h : i ≤ k) : (numCells k n i).length = k + 1 := by simp [numCells, byteCells_length, be_length]; omega
theorem num_byte (n i : Nat) : (n : Int) / 2 ^ (8 * i) % 256 = ((UInt8.ofNat (n / 256 ^ i)).toNat : Int) := by
  have h : (2 : Int) ^ (8 * i) = ((256 ^ i : Nat) : Int) := by
    rw [Int.pow_mul]; simp
  rw [h, UInt8.toNat_ofNat', ← Int.natCast_ediv]
  simp
theorem numCells_set (k n i : Nat) (h : i < k) : (numCells k n i).set (k - i) (.int .u8 ((n : Int) / 2 ^ (8 * i) % 256)) = numCells k n (i + 1) := by
  rw [num_byte]
  obtain ⟨m, hm⟩ : ∃ m, k - i = m + 1 := ⟨k - i - 1, by omega⟩
  unfold numCells
  rw [hm, show k - (i + 1) = m by omega]
  simp only [List.set_cons_succ, be, byteCells, List.map_cons]
  rw [List.replicate_succ', List.append_assoc, List.set_append_right _ _ (by simp)]
  simp
theorem numCells_get (k n i j : Nat) (h : i ≤ k) (hj : j ≤ k) : ∃ v, (numCells k n i)[j]? = some v :=
  ⟨_, List.getElem?_eq_getElem (by rw [numCells_length k n i h]; omega)⟩
def headN (n : Nat) : Nat := if moreN n < 8 then onesN (moreN n) ||| (n / 256 ^ moreN n % 256) else onesN (moreN n)
/-- A number's bytes. -/
def numB (n : Nat) : List UInt8 := UInt8.ofNat (headN n) :: be (moreN n) n

theorem byteInfo : (Try.prog.info? 5).map (fun i => (i.zero, i.size, i.bytes)) = some (some (.int .u8 0), 1, 1) := by kernel_rfl
theorem made_bytes (n : Nat) : madeCells (Value.cells (.int .u8 0)) (n * 1) = (List.replicate n (Value.int .u8 0)).toArray := by
  apply Array.ext
  · simp [size_madeCells]
  · intro i h1 h2
    simp [madeCells, Value.cells, Nat.mod_one]
theorem make_bytes (n : Nat) (hn : n ≤ 1000000) (w : World) : (Instr.makeSlice 52 (.int .i64 n) (.int .i64 n)).run Try.prog w = .ok (.slice (some ⟨w.heap.size, 0, none⟩) n n) (w.alloc (.cells (List.replicate n (Value.int .u8 0)).toArray 5)) := by
  have h := byteInfo
  cases hq : Try.prog.info? 5 with
  | none => rw [hq] at h; cases h
  | some i =>
    rw [hq] at h
    simp only [Option.map_some, Option.some.injEq, Prod.mk.injEq] at h
    obtain ⟨h1, h2, h3⟩ := h
    have := run_make (P := Try.prog) w 52 5 i (.int .u8 0) Try.underlying52 hq h1 .i64 .i64 n n (by omega) (Int.le_refl _) (by rw [h3]; omega) (by omega)
    rw [this, h2, Int.toNat_natCast, made_bytes]
theorem make_num (k n : Nat) (hk : k ≤ 8) (w : World) : (Instr.makeSlice 52 (.int .i64 ((k : Int) + 1)) (.int .i64 ((k : Int) + 1))).run Try.prog w = .ok (.slice (some ⟨w.heap.size, 0, none⟩) (k + 1) (k + 1)) (w.alloc (.cells (numCells k n 0).toArray 5)) := by
  have := make_bytes (k + 1) (by omega) w
  have e : numCells k n 0 = List.replicate (k + 1) (Value.int .u8 0) := by simp [numCells, be, byteCells, List.replicate_succ]
  rw [e, ← this]
  rfl

theorem onesN_lt (k : Nat) : onesN k < 256 := Nat.lt_of_le_of_lt (Nat.sub_le _ _) (by decide)
theorem headN_lt (n : Nat) : headN n < 256 := by
  unfold headN
  split
  · exact Nat.or_lt_two_pow (n := 8) (onesN_lt _) (Nat.mod_lt _ (by decide))
  · exact onesN_lt _
theorem numB_length (n : Nat) : (numB n).length = moreN n + 1 := by simp [numB, be_length]
theorem or_head (m j : Nat) (h : moreN m = j) (h8 : j < 8) : bits .or .u8 ((onesN j : Nat) : Int) (IntKind.u8.wrap ((m : Int) / 2 ^ (8 * (j : Int)).toNat)) = ((headN m : Nat) : Int) := by
  have e : IntKind.u8.wrap ((m : Int) / 2 ^ (8 * (j : Int)).toNat) = ((m / 256 ^ j % 256 : Nat) : Int) := by
    rw [IntKind.wrap_u8, show (8 * (j : Int)).toNat = 8 * j by omega, num_byte]
    simp
  rw [e, bits_or_u8 _ _ (onesN_lt _) (Nat.mod_lt _ (by decide)), headN, h, if_pos h8]
theorem numB_cells (m j : Nat) (h : moreN m = j) : byteCells (numB m) = .int .u8 ((headN m : Nat) : Int) :: byteCells (be j m) := by
  have e : (UInt8.ofNat (headN m)).toNat = headN m := by rw [UInt8.toNat_ofNat', Nat.mod_eq_of_lt (headN_lt m)]
  simp only [numB, h, byteCells, List.map_cons, e]
theorem num_str {w : World} {g t m j : Nat} (h : moreN m = j) (hb : Blk w g t (.int .u8 ((headN m : Nat) : Int) :: byteCells (be j m)).toArray) : (convert 52 9 (.slice (some ⟨g, 0, none⟩) (j + 1) (j + 1))).run Try.prog w = .ok (.string (strOf (numB m))) w := by
  rw [← numB_cells m j h] at hb
  have := run_bytes_str (P := Try.prog) (cap := j + 1) hb (by rw [List.drop_zero, ← byteCells_length, List.take_length]) Try.underlying52 Try.underlying5 Try.underlying9
  rwa [numB_length, h] at this

set_option maxHeartbeats 400000 in
set_option maxRecDepth 100000 in
theorem num_any (n : Int) (m : Nat) (hn : n = (m : Int)) (hm : m < 18446744073709551616) (w : World) : Calls Try.prog 12 #[.int .u64 n] w fun e w' => e = .returned (.string (strOf (numB m))) ∧ Below w.heap.size w w' := by
  have hmo := more_any n m hn hm w
  have hon := fun w => ones_any (moreN m : Nat) (moreN m) rfl (moreN_le m) w
  have HMO := Lib.hid hmo
  have HON := Lib.hid hon
  have HM := Lib.hid hm
  subst hn
  clear hmo hon hm
  have hle := moreN_le m
  have hmk := fun w => make_num (moreN m) m hle w
  go_enter Try.func12, Try.ntmps12
  go_wp2_with fail
  refine (HMO.out).mono ?_
  rintro e w' ⟨rfl, rfl⟩
  generalize hk : moreN m = k at *
  have HK := Lib.hid hk
  clear hk
  go_wp2_with fail
  go_loopw [12] (fun i wr => ∃ j : Nat, j ≤ k ∧ i = .int .i64 j ∧ wr = w.alloc (.cells (numCells k m j).toArray 5)) (fun i _ => k - (intOf i).toNat)
  case atStart => exact ⟨0, by omega, rfl, rfl⟩
  case round =>
    obtain ⟨j, hj, rfl, rfl⟩ := hrel
    by_cases hlt : j < k
    · obtain ⟨v, hv⟩ := numCells_get k m j (k - j) hj (by omega)
      have hs := numCells_set k m j hlt
      clear hmk
      go_wp2_with fail
      exact ⟨⟨j + 1, by omega, by go_num, rfl⟩, by simp [intOf]; omega⟩
    · obtain rfl : j = k := by omega
      clear hmk
      have hnc : numCells j m j = .int .u8 0 :: byteCells (be j m) := by simp [numCells]
      rw [hnc]
      clear hnc
      by_cases h8 : j < 8
      · have h8' : decide ((j : Int) < 8) = true := by simp; omega
        go_wp2_with fail
        refine (HON.out _).mono ?_
        rintro e w' ⟨rfl, rfl⟩
        go_wp2_with fail
        have hw8 : IntKind.i64.wrap (8 * (j : Int)) = 8 * (j : Int) := by rw [IntKind.wrap_i64]; omega
        have hB := Blk.new w 5 (Value.int IntKind.u8 ↑(onesN j) :: byteCells (be j m)).toArray
        have hc := hB.cell 0
        have hz := hB.frozen 0
        change _ = some (Value.int IntKind.u8 ↑(onesN j)) at hc
        have HB := Lib.hid hB
        clear hB
        have HW1 : Hid (Below w.heap.size w (w.alloc (.cells (Value.int IntKind.u8 ↑(onesN j) :: byteCells (be j m)).toArray 5))) := Lib.hid ((Below.refl _ _).alloc (Nat.le_refl _) _)
        generalize w.alloc (.cells (Value.int IntKind.u8 ↑(onesN j) :: byteCells (be j m)).toArray 5) = w1 at *
        have HOR := Lib.hid (or_head m j HK.out h8)
        go_still_tail 10, (by kernel_rfl)
        change wpList _ _ _ _ _ w1.drew
        rw [HOR.out]
        have hB2 := (HB.out.set 0 (.int .u8 ((headN m : Nat) : Int))).drew
        change Blk _ _ _ (Value.int .u8 ((headN m : Nat) : Int) :: byteCells (be j m)).toArray at hB2
        have hcv := num_str HK.out hB2
        clear HOR hB2
        go_wp2_with fail
        go_ret
        exact ⟨rfl, (HW1.out.setCell (p := ⟨w.heap.size, 0, none⟩) (Nat.le_refl _) _).drew⟩
      · have h8' : decide ((j : Int) < 8) = false := by simp; omega
        go_wp2_with fail
        refine (HON.out _).mono ?_
        rintro e w' ⟨rfl, rfl⟩
        have hB2 := Blk.new w 5 (Value.int IntKind.u8 ↑(onesN j) :: byteCells (be j m)).toArray
        have e9 : onesN j = headN m := by rw [headN, HK.out, if_neg h8]
        rw [e9] at hB2
        have hcv := num_str HK.out hB2
        rw [← e9] at hcv
        clear hB2 e9
        go_wp2_with fail
        go_ret
        exact ⟨rfl, (Below.refl _ _).alloc (Nat.le_refl _) _⟩
end Go.Proofs.Ytckkfnjhhdkmjaa
