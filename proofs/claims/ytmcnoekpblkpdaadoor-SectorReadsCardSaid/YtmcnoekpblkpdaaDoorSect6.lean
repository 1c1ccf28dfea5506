/- sector: Make. -/
import Derived.Test.YtmcnoekpblkpdaaDoorSect5
import Derived.Test.YtmcnoekpblkpdaaDoorStep
import Derived.Test.YtmcnoekpblkpdaaDoorShelf
namespace Go.Proofs.YtmcnoekpblkpdaaDoor
open Go.RowKit

theorem conv_of {w : World} {g c : Nat} (h : c < 256) (hb : Blk w g 5 #[.int .u8 (c : Int)]) : (convert 31 9 (.slice (some ⟨g, 0, none⟩) 1 1)).run Tryd.prog w = .ok (.string (strOf [UInt8.ofNat c])) w := by
  have hc : (UInt8.ofNat c).toNat = c := by rw [UInt8.toNat_ofNat']; omega
  exact run_bytes_str (P := Tryd.prog) (cap := 1) (s := [UInt8.ofNat c]) (off := 0) hb (by simp [byteCells, hc]) Tryd.underlying31 Tryd.underlying5 Tryd.underlying9

theorem repeat_zero (n : Nat) : Lib.repeatL [0] n = zeros n := by
  induction n with
  | zero => rfl
  | succ n ih => simp [Lib.repeatL, ih, zeros, List.replicate_succ]
theorem repeat_any (n : Nat) (h : n ≤ 107) (w : World) : Calls Tryd.prog 28 #[.string ⟨#[0]⟩, .int .i64 (n : Int)] w fun e w' => e = .returned (.string (strOf (zeros n))) ∧ Below w.heap.size w w' := by
  have := Tryd.strings_Repeat ⟨#[0]⟩ n w (by omega) (by show 1 * n ≤ _; omega)
  rw [show (⟨#[0]⟩ : ByteArray).data.toList = [0] from rfl, repeat_zero] at this
  exact this

theorem bytes_8 (m : Nat) (w : World) : Calls Tryd.prog 27 #[.int .u64 (m : Int), .int .i64 8] w fun e w' => e = .returned (.string (strOf (be 8 m))) ∧ Below w.heap.size w w' := by
  have h := bytes_any _ m rfl 8 (by omega) w
  rw [show ((8 : Nat) : Int) = 8 from rfl] at h
  exact h
theorem bytes_4 (m : Nat) (w : World) : Calls Tryd.prog 27 #[.int .u64 (m : Int), .int .i64 4] w fun e w' => e = .returned (.string (strOf (be 4 m))) ∧ Below w.heap.size w w' := by
  have h := bytes_any _ m rfl 4 (by omega) w
  rw [show ((4 : Nat) : Int) = 4 from rfl] at h
  exact h
set_option maxHeartbeats 400000 in
set_option maxRecDepth 100000 in
theorem make_bad (p : List UInt8) (hp : 107 < p.length) (hp2 : p.length ≤ 4096) (t : Nat × Nat) (w : World) : Calls Tryd.prog 18 #[.string (strOf p), tagV t] w fun e w' => e = .returned (.tuple #[.string ⟨#[]⟩, .int .i64 1]) ∧ Below w.heap.size w w' := by
  obtain ⟨t1, t2⟩ := t
  unfold tagV
  have hsz : (strOf p).size = p.length := rfl
  have hd : decide ((107 : Int) < (p.length : Int)) = true := by simp; omega
  generalize strOf p = ss at *
  go_enter Tryd.func18, Tryd.ntmps18
  go_wp2_with fail
  go_returns
  exact ⟨rfl, (Below.refl _ _).alloc (Nat.le_refl _) _⟩

set_option maxHeartbeats 2000000 in
set_option maxRecDepth 100000 in
theorem make_any (p : List UInt8) (hp : p.length ≤ 107) (t : Nat × Nat) (w : World) : Calls Tryd.prog 18 #[.string (strOf p), tagV t] w fun e w' => e = .returned (.tuple #[.string (strOf (secMake p t)), .int .i64 0]) ∧ Below w.heap.size w w' := by
  obtain ⟨t1, t2⟩ := t
  unfold tagV
  have B1 : Hid (∀ w, Calls Tryd.prog 27 #[.int .u64 (t1 : Int), .int .i64 8] w fun e w' => e = .returned (.string (strOf (be 8 t1))) ∧ Below w.heap.size w w') := Lib.hid fun w => bytes_8 t1 w
  have B2 : Hid (∀ w, Calls Tryd.prog 27 #[.int .u64 (t2 : Int), .int .i64 8] w fun e w' => e = .returned (.string (strOf (be 8 t2))) ∧ Below w.heap.size w w') := Lib.hid fun w => bytes_8 t2 w
  have B3 : Hid (∀ w, Calls Tryd.prog 27 #[.int .u64 (sumN (p ++ endB (t1, t2)) : Nat), .int .i64 4] w fun e w' => e = .returned (.string (strOf (be 4 (sumN (p ++ endB (t1, t2)))))) ∧ Below w.heap.size w w') := Lib.hid fun w => bytes_4 _ w
  have S1 : Hid (∀ w, Calls Tryd.prog 19 #[.string (strOf (p ++ endB (t1, t2)))] w fun e w' => e = .returned (.int .u32 (sumN (p ++ endB (t1, t2)) : Nat)) ∧ Below w.heap.size w w') := Lib.hid fun w => sum_any _ (by rw [List.length_append, endB_length]; omega) w
  have R1 : Hid (∀ w, Calls Tryd.prog 28 #[.string ⟨#[0]⟩, .int .i64 (107 - (p.length : Int))] w fun e w' => e = .returned (.string (strOf (zeros (107 - p.length)))) ∧ Below w.heap.size w w') := Lib.hid fun w => by
    have := repeat_any (107 - p.length) (by omega) w
    rwa [show ((107 - p.length : Nat) : Int) = 107 - (p.length : Int) by omega] at this
  have A1 : Hid (strOf (be 8 t1) ++ strOf (be 8 t2) = strOf (endB (t1, t2))) := Lib.hid (strOf_append _ _)
  have A2 : Hid (strOf p ++ strOf (endB (t1, t2)) = strOf (p ++ endB (t1, t2))) := Lib.hid (strOf_append _ _)
  have A3 : Hid (strOf [UInt8.ofNat p.length] ++ strOf p ++ strOf (zeros (107 - p.length)) ++ strOf (be 4 (sumN (p ++ endB (t1, t2)))) ++ strOf (endB (t1, t2)) = strOf (secMake p (t1, t2))) := Lib.hid (by simp only [strOf_append, secMake])
  have hsz : (strOf p).size = p.length := rfl
  have hd : decide ((107 : Int) < (p.length : Int)) = false := by simp; omega
  have HL : Hid (sumN (p ++ endB (t1, t2)) < 4294967296) := Lib.hid (sumN_lt _)
  have z0 : (strOf [UInt8.ofNat p.length]).size ≤ 1 := Nat.le_refl _
  have z1 : (strOf (be 8 t1)).size ≤ 8 := Nat.le_of_eq (be_length _ _)
  have z2 : (strOf (be 8 t2)).size ≤ 8 := Nat.le_of_eq (be_length _ _)
  have z4 : (strOf (be 4 (sumN (p ++ endB (t1, t2))))).size ≤ 4 := Nat.le_of_eq (be_length _ _)
  have z5 : (strOf (zeros (107 - p.length))).size ≤ 107 := by rw [strOf_size]; simp [zeros]
  have z6 : (strOf (endB (t1, t2))).size ≤ 16 := Nat.le_of_eq (endB_length _)
  generalize sumN (p ++ endB (t1, t2)) = sm at *
  generalize strOf (p ++ endB (t1, t2)) = pe at *
  generalize strOf (endB (t1, t2)) = en at *
  generalize strOf (be 8 t1) = x1 at *
  generalize strOf (be 8 t2) = x2 at *
  generalize strOf (be 4 sm) = x4 at *
  generalize strOf (zeros (107 - p.length)) = zz at *
  generalize strOf (secMake p (t1, t2)) = res at *
  generalize strOf p = ss at *
  generalize p.length = n at *
  have hcv0 : ∀ w : World, (convert 31 9 (.slice (some ⟨w.heap.size, 0, none⟩) 1 1)).run Tryd.prog (w.alloc (.cells #[.int .u8 (n : Int)] 5)).drew = .ok (.string (strOf [UInt8.ofNat n])) (w.alloc (.cells #[.int .u8 (n : Int)] 5)).drew := fun w => conv_of (by omega) (Blk.new w 5 #[.int .u8 (n : Int)]).drew
  have hcv1 : ∀ w : World, (convert 31 9 (.slice (some ⟨w.heap.size, 0, none⟩) 1 1)).run Tryd.prog (w.alloc (.cells #[.int .u8 (n : Int)] 5)) = .ok (.string (strOf [UInt8.ofNat n])) (w.alloc (.cells #[.int .u8 (n : Int)] 5)) := fun w => conv_of (by omega) (Blk.new w 5 #[.int .u8 (n : Int)])
  have hwr : IntKind.u8.wrap (n : Int) = (n : Int) := by simp [IntKind.wrap, IntKind.bits, IntKind.signed]; omega
  have HCV := Lib.hid hcv0
  have HCW := Lib.hid hcv1
  have HWR := Lib.hid hwr
  clear hcv0 hcv1 hwr
  generalize hx0 : strOf [UInt8.ofNat n] = x0 at *
  have HX0 := Lib.hid hx0
  clear hx0
  go_enter Tryd.func18, Tryd.ntmps18
  go_wp2_with fail
  have hN := Blk.new w tTag #[.int .u64 (t1 : Int), .int .u64 (t2 : Int)]
  have c0 := hN.cell 0
  have c1 := hN.cell 1
  have hlt := hN.lt
  change _ = some (Value.int .u64 (t1 : Int)) at c0
  change _ = some (Value.int .u64 (t2 : Int)) at c1
  have hB0 : Bel w (w.alloc (.cells #[.int .u64 (t1 : Int), .int .u64 (t2 : Int)] tTag)) := (Below.refl _ _).alloc (Nat.le_refl _) _
  have HB0 := Lib.hid hB0
  clear hN hB0
  change Code.wp _ _ _ _ (w.alloc (.cells #[.int .u64 (t1 : Int), .int .u64 (t2 : Int)] tTag))
  generalize w.alloc (.cells #[.int .u64 (t1 : Int), .int .u64 (t2 : Int)] tTag) = w0 at *
  have q0 : (9223372036854775807 < x1.size + x2.size) = False := eq_false (by omega)
  go_region_held3 (fun w' => Bel w0 w' ∧ w'.cell? ⟨w.heap.size, 0, none⟩ = some (.int .u64 (t1 : Int)) ∧ w'.cell? ⟨w.heap.size, 1, none⟩ = some (.int .u64 (t2 : Int)))
    (first | assumption | exact Bel.keep2 (p := ⟨w.heap.size, 0, none⟩) (q := ⟨w.heap.size, 1, none⟩) hlt hlt c0 c1 (Bel.start w0) | exact Bel.keep2 (p := ⟨w.heap.size, 0, none⟩) (q := ⟨w.heap.size, 1, none⟩) hlt hlt c0 c1 (Bel.step2 (by assumption) hb))
    (first | (go_at_call 27; (with_reducible refine (B1.out _).mono ?_); rintro e w1 ⟨rfl, hb⟩) | (go_at_call 27; (with_reducible refine (B2.out _).mono ?_); rintro e w1 ⟨rfl, hb⟩))
  have hS1 : Bel w0 w1 := by rename_i hS; exact hS.1
  have HS1 := Lib.hid (HB0.out.step hS1)
  rename_i hSS
  clear hSS hS1 q0 c0 c1 B1 B2
  rw [A1.out]
  clear A1 z1 z2 hb
  generalize x1 ++ x2 = x12
  go_wp2_with (go_at_call 28; (with_reducible refine (R1.out _).mono ?_); rintro e w2 ⟨rfl, hb⟩)
  have HS2 := Lib.hid (HS1.out.step hb)
  clear hb
  have hcv0 := HCV.out
  have hcv1 := HCW.out
  have hwr := HWR.out
  have hws : IntKind.u64.wrap (sm : Int) = (sm : Int) := by have := HL.out; rw [IntKind.wrap_u64]; omega
  have q1 : (9223372036854775807 < n + en.size) = False := eq_false (by omega)
  have q2 : (9223372036854775807 < x0.size + n) = False := eq_false (by omega)
  have q3 : (9223372036854775807 < x0.size + n + zz.size) = False := eq_false (by omega)
  have q4 : (9223372036854775807 < x0.size + n + zz.size + x4.size) = False := eq_false (by omega)
  have q5 : (9223372036854775807 < x0.size + n + zz.size + x4.size + en.size) = False := eq_false (by omega)
  go_region_held (fun w' => Bel w w') (first | assumption | exact HS2.out.drew | exact Bel.step (by assumption) hbA | exact Bel.step (by assumption) hbB | exact Bel.alloc (by assumption) _) (first
      | (go_at_call 19; rw [A2.out]; (with_reducible refine (S1.out _).mono ?_); rintro e w3 ⟨rfl, hbA⟩; first | (have hN := Blk.newBelow2 hbA; have hcv := conv_of (by omega) hN; rw [HX0.out] at hcv) | (have hN := Blk.newBelow hbA; have hcv := conv_of (by omega) hN; rw [HX0.out] at hcv) | skip)
      | (go_at_call 27; (with_reducible refine (B3.out _).mono ?_); rintro e w4 ⟨rfl, hbB⟩; first | (have hN2 := Blk.newBelow2 hbB; have hcv2 := conv_of (by omega) hN2; rw [HX0.out] at hcv2) | (have hN2 := Blk.newBelow hbB; have hcv2 := conv_of (by omega) hN2; rw [HX0.out] at hcv2) | (have hN2 := hN.below hbB hN.lt; have hcv2 := conv_of (by omega) hN2; rw [HX0.out] at hcv2) | skip))
  all_goals (rename_i hE; have hB : Bel w _ := hE; clear hE; rw [A3.out]; go_wp2_with fail; go_returns; exact ⟨rfl, hB⟩)
end Go.Proofs.YtmcnoekpblkpdaaDoor
