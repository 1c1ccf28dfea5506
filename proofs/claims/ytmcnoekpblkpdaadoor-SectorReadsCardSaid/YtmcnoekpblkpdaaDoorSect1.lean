/- sector: Sum, bytes, number. -/
import Derived.Test.YtmcnoekpblkpdaaDoorByt
import Derived.Test.YtmcnoekpblkpdaaDoorGat
import Derived.Handy
namespace Go.Proofs.YtmcnoekpblkpdaaDoor
open Go.RowKit

def sumStep (p : Nat × Nat) (c : UInt8) : Nat × Nat := ((p.1 + c.toNat) % 65521, (p.2 + (p.1 + c.toNat) % 65521) % 65521)
def sumF (s : List UInt8) : Nat × Nat := s.foldl sumStep (1, 0)
def sumN (s : List UInt8) : Nat := (sumF s).2 * 65536 + (sumF s).1
theorem sumF_lt (s : List UInt8) : (sumF s).1 < 65521 ∧ (sumF s).2 < 65521 := by
  have h : ∀ (s : List UInt8) (p : Nat × Nat), p.1 < 65521 → p.2 < 65521 → (s.foldl sumStep p).1 < 65521 ∧ (s.foldl sumStep p).2 < 65521 := by
    intro s
    induction s with
    | nil => intro p h1 h2; exact ⟨h1, h2⟩
    | cons c s ih => intro p _ _; exact ih _ (Nat.mod_lt _ (by decide)) (Nat.mod_lt _ (by decide))
  exact h s _ (by decide) (by decide)
theorem sumF_snoc (s : List UInt8) (c : UInt8) : sumF (s ++ [c]) = sumStep (sumF s) c := by simp [sumF]

abbrev tU32 : TypeId := 47
set_option maxHeartbeats 400000 in
theorem put_any {w : World} {ga gb a b : Nat} (ha : Blk w ga tU32 #[.int .u32 (a : Int)]) (hb : Blk w gb tU32 #[.int .u32 (b : Int)]) (hne : ga ≠ gb) (ha2 : a < 65521) (hb2 : b < 65521) (c : UInt8) :
    Calls Tryd.prog 29 #[.int .u8 (c.toNat : Int), .pointer (some ⟨ga, 0, none⟩), .pointer (some ⟨gb, 0, none⟩)] w fun e w' => e = .returned (.tuple #[]) ∧
      Blk w' ga tU32 #[.int .u32 ((sumStep (a, b) c).1 : Nat)] ∧ Blk w' gb tU32 #[.int .u32 ((sumStep (a, b) c).2 : Nat)] ∧ Frm (fun k => k = ga ∨ k = gb) w w' := by
  have c0 := ha.cell 0
  have c1 := hb.cell 0
  have z0 := ha.frozen 0
  have z1 := hb.frozen 0
  change _ = some (Value.int .u32 (a : Int)) at c0
  change _ = some (Value.int .u32 (b : Int)) at c1
  have hc := c.toNat_lt
  have HS1 : Hid (((sumStep (a, b) c).1 : Int) = ((a : Int) + c.toNat) % 65521) := Lib.hid (by simp only [sumStep]; omega)
  have HS2 : Hid (((sumStep (a, b) c).2 : Int) = ((b : Int) + ((a : Int) + c.toNat)) % 65521) := Lib.hid (by simp only [sumStep]; omega)
  generalize sumStep (a, b) c = st at *
  generalize c.toNat = x at *
  have HA := Lib.hid ha
  have HB := Lib.hid hb
  clear ha hb
  go_enter Tryd.func29, Tryd.ntmps29
  go_wp2
  go_end0
  refine ⟨rfl, ?_, ?_, ((Frm.refl _ _).setCell (p := ⟨ga, 0, none⟩) (by exact .inl (.inl rfl)) _).setCell (p := ⟨gb, 0, none⟩) (by exact .inl (.inr rfl)) _⟩
  · rw [HS1.out]
    exact (HA.out.set 0 _).far (p := ⟨gb, 0, none⟩) hne _
  · rw [HS2.out]
    exact (HB.out.far (p := ⟨ga, 0, none⟩) (fun h => hne h.symm) _).set 0 _

theorem sum_or (a b : Nat) (ha : a < 65521) (hb : b < 65521) : bits .or .u32 ((b : Int) * 65536 % 4294967296) (a : Int) = ((b * 65536 + a : Nat) : Int) := by
  rw [show (b : Int) * 65536 % 4294967296 = ((b * 65536 : Nat) : Int) by omega]
  rw [bits_or_u32 _ _ (by omega) (by omega)]
  have := Nat.shiftLeft_add_eq_or_of_lt (i := 16) (b := a) (by omega) b
  rw [Nat.shiftLeft_eq] at this
  rw [← this]
set_option maxHeartbeats 400000 in
set_option maxRecDepth 100000 in
theorem sum_any (s : List UInt8) (hs : s.length ≤ 4096) (w : World) : Calls Tryd.prog 19 #[.string (strOf s)] w fun e w' => e = .returned (.int .u32 (sumN s : Nat)) ∧ Below w.heap.size w w' := by
  obtain ⟨ss, hss⟩ : ∃ ss, strOf s = ss := ⟨_, rfl⟩
  rw [hss]
  have hsz : ss.size = s.length := by rw [← hss]; rfl
  have HSS := Lib.hid hss
  have HSZ := Lib.hid hsz
  clear hss hsz
  go_enter Tryd.func19, Tryd.ntmps19
  go_wp2_with fail
  have hB := ((Below.refl w.heap.size w).alloc (Nat.le_refl _) (.cells #[.int .u32 1] tU32)).alloc (by simp) (.cells #[.int .u32 0] tU32)
  have hA0 := (Blk.new w tU32 #[.int .u32 1]).alloc (.cells #[.int .u32 0] tU32)
  have hA1 := Blk.new (w.alloc (.cells #[.int .u32 1] tU32)) tU32 #[.int .u32 0]
  rw [World.size_alloc] at hA1
  generalize (w.alloc (.cells #[.int .u32 1] tU32)).alloc (.cells #[.int .u32 0] tU32) = w0 at *
  go_loopw [10] (fun i wr => ∃ j : Nat, j ≤ s.length ∧ i = .int .i64 j ∧ Blk wr w.heap.size tU32 #[.int .u32 ((sumF (s.take j)).1 : Nat)] ∧ Blk wr (w.heap.size + 1) tU32 #[.int .u32 ((sumF (s.take j)).2 : Nat)] ∧ Below w.heap.size w wr) (fun i _ => s.length - (intOf i).toNat)
  case atStart => exact ⟨0, by omega, rfl, hA0, hA1, hB⟩
  case round =>
    clear hA0 hA1 hB
    obtain ⟨j, hj, rfl, h0, h1, hB⟩ := hrel
    have H0 := Lib.hid h0
    have H1 := Lib.hid h1
    have HB := Lib.hid hB
    clear h0 h1 hB
    obtain ⟨b1, b2⟩ := sumF_lt (s.take j)
    by_cases hlt : j < s.length
    · have hj2 : (j : Int) + 1 ≤ 4096 := by omega
      have hjs : j < ss.size := by have := HSZ.out; omega
      have hgj : ss[j] = s[j] := str_at s ss HSS.out j hlt hjs
      have HPUT := Lib.hid (put_any H0.out H1.out (by omega) b1 b2 s[j])
      have HST : Hid (sumStep ((sumF (s.take j)).1, (sumF (s.take j)).2) s[j] = sumF (s.take (j + 1))) := Lib.hid (by rw [List.take_succ_eq_append_getElem hlt, sumF_snoc])
      rw [HST.out] at HPUT
      generalize s[j] = c at *
      clear b1 b2
      go_wp2_with fail
      refine (HPUT.out).mono ?_
      rintro e w2 ⟨rfl, h0, h1, hf⟩
      have H02 := Lib.hid h0
      have H12 := Lib.hid h1
      have HB2 := Lib.hid (HB.out.trans (hf.below (B := w.heap.size) (fun k _ hk => by rcases hk with hk | hk <;> omega) HB.out.size))
      clear h0 h1 hf
      go_wp2_with fail
      exact ⟨⟨j + 1, by omega, by go_num, H02.out, H12.out, HB2.out⟩, by simp [intOf]; omega⟩
    · obtain rfl : j = s.length := by omega
      have hjs : ¬ s.length < ss.size := by have := HSZ.out; omega
      have c0 := H0.out.cell 0
      have c1 := H1.out.cell 0
      rw [List.take_length] at c0 c1 b1 b2
      change _ = some (Value.int .u32 ((sumF s).1 : Nat)) at c0
      change _ = some (Value.int .u32 ((sumF s).2 : Nat)) at c1
      have HSN : Hid (sumN s = (sumF s).2 * 65536 + (sumF s).1) := Lib.hid rfl
      generalize (sumF s).1 = a at *
      generalize (sumF s).2 = b at *
      have HOR := Lib.hid (sum_or a b b1 b2)
      clear b1 b2
      go_wp2_with fail
      go_ret
      exact ⟨ret_int (by rw [HSN.out]; exact HOR.out), HB.out⟩

set_option maxHeartbeats 400000 in
set_option maxRecDepth 100000 in
theorem number_any (s : List UInt8) (hs : s.length ≤ 8) (w : World) : Calls Tryd.prog 25 #[.string (strOf s)] w fun e w' => e = .returned (.int .u64 (foldN 0 s : Nat)) ∧ w = w' := by
  obtain ⟨ss, hss⟩ : ∃ ss, strOf s = ss := ⟨_, rfl⟩
  rw [hss]
  have hsz : ss.size = s.length := by rw [← hss]; rfl
  have HSS := Lib.hid hss
  have HSZ := Lib.hid hsz
  clear hss hsz
  go_enter Tryd.func25, Tryd.ntmps25
  go_wp2_with fail
  go_loopw [3, 7] (fun n i wr => ∃ j : Nat, j ≤ s.length ∧ n = .int .u64 (foldN 0 (s.take j) : Nat) ∧ i = .int .i64 j ∧ wr = w) (fun _ i _ => s.length - (intOf i).toNat)
  case atStart => exact ⟨0, by omega, rfl, rfl, rfl⟩
  case round =>
    obtain ⟨j, hj, rfl, rfl, rfl⟩ := hrel
    by_cases hlt : j < s.length
    · have hj2 : (j : Int) + 1 ≤ 8 := by omega
      have hjs : j < ss.size := by have := HSZ.out; omega
      have hgj : ss[j] = s[j] := str_at s ss HSS.out j hlt hjs
      have hF : foldN 0 (s.take j) < 72057594037927936 := by
        have := foldN_lt (s.take j) 0 0 (by decide)
        rw [List.length_take, Nat.min_eq_left (by omega)] at this
        exact Nat.lt_of_lt_of_le this (by have := Nat.pow_le_pow_right (n := 2) (i := 0 + 8 * j) (j := 56) (by decide) (by omega); exact this)
      have HST := Lib.hid (shift_add hF (s[j].toNat_lt))
      have HSN : Hid (foldN 0 (s.take j) * 256 + s[j].toNat = foldN 0 (s.take (j + 1))) := Lib.hid (by rw [List.take_succ_eq_append_getElem hlt, foldN_snoc])
      clear hF
      generalize s[j] = c at *
      go_wp2_with fail
      rw [HST.out, HSN.out]
      exact ⟨⟨j + 1, by omega, rfl, by go_num, trivial⟩, by simp [intOf]; omega⟩
    · obtain rfl : j = s.length := by omega
      have hjs : ¬ s.length < ss.size := by have := HSZ.out; omega
      go_wp2_with fail
      go_ret
      rw [List.take_length]
      exact ⟨rfl, rfl⟩

set_option maxHeartbeats 400000 in
set_option maxRecDepth 100000 in
theorem bytes_any (n : Int) (m : Nat) (hn : n = (m : Int)) (k : Nat) (hk : k ≤ 8) (w : World) : Calls Tryd.prog 27 #[.int .u64 n, .int .i64 (k : Int)] w fun e w' => e = .returned (.string (strOf (be k m))) ∧ Below w.heap.size w w' := by
  subst hn
  have hmk := fun w => make_bytes k (by omega) w
  rw [← bufCells_0 k m] at hmk
  have HST : Hid (∀ i, i < k → (bufCells k m i).set (k - 1 - i) (.int .u8 ((m : Int) / 2 ^ (8 * i) % 256)) = bufCells k m (i + 1)) := Lib.hid fun i hi => bufCells_set k m i hi
  go_enter Tryd.func27, Tryd.ntmps27
  go_wp2_with fail
  clear hmk
  go_loopw [10] (fun i wr => ∃ j : Nat, j ≤ k ∧ i = .int .i64 j ∧ wr = w.alloc (.cells (bufCells k m j).toArray 5)) (fun i _ => k - (intOf i).toNat)
  case atStart => exact ⟨0, by omega, rfl, rfl⟩
  case round =>
    obtain ⟨j, hj, rfl, rfl⟩ := hrel
    by_cases hlt : j < k
    · obtain ⟨v, hv⟩ := bufCells_get k m j (k - 1 - j) hj (by omega)
      have hs := HST.out j hlt
      have e1 : ((k : Int) - 1 - (j : Int)).toNat = k - 1 - j := by omega
      go_wp2_with fail
      exact ⟨⟨j + 1, by omega, by go_num, rfl⟩, by simp [intOf]; omega⟩
    · obtain rfl : j = k := by omega
      have hcv : (convert 31 9 (.slice (some ⟨w.heap.size, 0, none⟩) j j)).run Tryd.prog (w.alloc (.cells (bufCells j m j).toArray 5)) = .ok (.string (strOf (be j m))) (w.alloc (.cells (bufCells j m j).toArray 5)) := by
        have hb := Blk.new w 5 (bufCells j m j).toArray
        rw [bufCells_all] at hb ⊢
        have := run_bytes_str (P := Tryd.prog) (cap := j) hb (by rw [List.drop_zero, ← byteCells_length, List.take_length]) Tryd.underlying31 Tryd.underlying5 Tryd.underlying9
        rwa [be_length] at this
      go_wp2_with fail
      go_ret
      exact ⟨rfl, (Below.refl _ _).alloc (Nat.le_refl _) _⟩
end Go.Proofs.YtmcnoekpblkpdaaDoor
