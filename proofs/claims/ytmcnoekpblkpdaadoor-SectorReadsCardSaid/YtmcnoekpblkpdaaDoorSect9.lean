/- sector: the document's Make. -/
import Derived.Test.YtmcnoekpblkpdaaDoorSecEnds
namespace Go.Proofs.YtmcnoekpblkpdaaDoor
open Go.RowKit

theorem big_8 (m : Nat) (hm : m < 18446744073709551616) (w : World) : Calls Tryd.prog 23 #[.int .u64 (m : Int), .int .i64 8] w fun e w' => e = .returned (.string (strOf (be 8 m))) ∧ Below w.heap.size w w' := by
  have h := big_any m hm 8 (by omega) w
  rw [show ((8 : Nat) : Int) = 8 from rfl] at h
  exact h
theorem big_4 (m : Nat) (hm : m < 18446744073709551616) (w : World) : Calls Tryd.prog 23 #[.int .u64 (m : Int), .int .i64 4] w fun e w' => e = .returned (.string (strOf (be 4 m))) ∧ Below w.heap.size w w' := by
  have h := big_any m hm 4 (by omega) w
  rw [show ((4 : Nat) : Int) = 4 from rfl] at h
  exact h
set_option maxHeartbeats 400000 in
set_option maxRecDepth 100000 in
theorem rmake_bad (p : List UInt8) (hp : 107 < p.length) (hp2 : p.length ≤ 4096) (t : Nat × Nat) (w : World) : Calls Tryd.prog 11 #[.string (strOf p), tagV t] w fun e w' => e = .returned (.tuple #[.string ⟨#[]⟩, .int .i64 1]) ∧ Below w.heap.size w w' := by
  obtain ⟨t1, t2⟩ := t
  unfold tagV
  have hsz : (strOf p).size = p.length := rfl
  have hd : decide ((107 : Int) < (p.length : Int)) = true := by simp; omega
  generalize strOf p = ss at *
  go_enter Tryd.func11, Tryd.ntmps11
  go_wp2_with fail
  go_returns
  exact ⟨rfl, (Below.refl _ _).alloc (Nat.le_refl _) _⟩

/-- The sector's head, so many zeros behind the piece. -/
def headS (p : List UInt8) (j : Nat) : ByteArray := strOf ([UInt8.ofNat p.length] ++ p ++ zeros j)
theorem headS_size (p : List UInt8) (j : Nat) : (headS p j).size = 1 + p.length + j := by
  unfold headS; rw [strOf_size]; simp [zeros]; omega
theorem headS_succ (p : List UInt8) (j : Nat) : headS p j ++ ⟨#[0]⟩ = headS p (j + 1) := by
  unfold headS
  rw [show (⟨#[0]⟩ : ByteArray) = strOf [0] from rfl, strOf_append]
  congr 1
  rw [List.append_assoc]
  congr 1
  exact (List.replicate_succ' ..).symm
set_option maxHeartbeats 1000000 in
set_option maxRecDepth 100000 in
theorem rmake_any (p : List UInt8) (hp : p.length ≤ 107) (t : Nat × Nat) (ht1 : t.1 < 18446744073709551616) (ht2 : t.2 < 18446744073709551616) (w : World) : Calls Tryd.prog 11 #[.string (strOf p), tagV t] w fun e w' => e = .returned (.tuple #[.string (strOf (secMake p t)), .int .i64 0]) ∧ Below w.heap.size w w' := by
  obtain ⟨t1, t2⟩ := t
  unfold tagV
  have B1 : Hid (∀ w, Calls Tryd.prog 23 #[.int .u64 (t1 : Int), .int .i64 8] w fun e w' => e = .returned (.string (strOf (be 8 t1))) ∧ Below w.heap.size w w') := Lib.hid fun w => big_8 t1 ht1 w
  have B2 : Hid (∀ w, Calls Tryd.prog 23 #[.int .u64 (t2 : Int), .int .i64 8] w fun e w' => e = .returned (.string (strOf (be 8 t2))) ∧ Below w.heap.size w w') := Lib.hid fun w => big_8 t2 ht2 w
  have B3 : Hid (∀ w, Calls Tryd.prog 23 #[.int .u64 (sumN (p ++ endB (t1, t2)) : Nat), .int .i64 4] w fun e w' => e = .returned (.string (strOf (be 4 (sumN (p ++ endB (t1, t2)))))) ∧ Below w.heap.size w w') := Lib.hid fun w => big_4 _ (Nat.lt_trans (sumN_lt _) (by decide)) w
  have S1 : Hid (∀ w, Calls Tryd.prog 20 #[.string (strOf (p ++ endB (t1, t2)))] w fun e w' => e = .returned (.int .u32 (sumN (p ++ endB (t1, t2)) : Nat)) ∧ w = w') := Lib.hid fun w => rsum_any _ (by rw [List.length_append, endB_length]; omega) w
  have A1 : Hid (strOf (be 8 t1) ++ strOf (be 8 t2) = strOf (endB (t1, t2))) := Lib.hid (strOf_append _ _)
  have A2 : Hid (strOf p ++ strOf (endB (t1, t2)) = strOf (p ++ endB (t1, t2))) := Lib.hid (strOf_append _ _)
  have A3 : Hid (headS p (107 - p.length) ++ strOf (be 4 (sumN (p ++ endB (t1, t2)))) ++ strOf (endB (t1, t2)) = strOf (secMake p (t1, t2))) := Lib.hid (by simp only [headS, strOf_append, secMake])
  have A4 : Hid (strOf [UInt8.ofNat p.length] ++ strOf p = headS p 0) := Lib.hid (by rw [strOf_append]; unfold headS; simp [zeros])
  have HH := Lib.hid fun j => headS_succ p j
  have HZ := Lib.hid fun j => headS_size p j
  have hsz : (strOf p).size = p.length := rfl
  have hd : decide ((107 : Int) < (p.length : Int)) = false := by simp; omega
  have HL : Hid (sumN (p ++ endB (t1, t2)) < 4294967296) := Lib.hid (sumN_lt _)
  have z0 : (strOf [UInt8.ofNat p.length]).size ≤ 1 := Nat.le_refl _
  have z1 : (strOf (be 8 t1)).size ≤ 8 := Nat.le_of_eq (be_length _ _)
  have z2 : (strOf (be 8 t2)).size ≤ 8 := Nat.le_of_eq (be_length _ _)
  have z4 : (strOf (be 4 (sumN (p ++ endB (t1, t2))))).size ≤ 4 := Nat.le_of_eq (be_length _ _)
  have z6 : (strOf (endB (t1, t2))).size ≤ 16 := Nat.le_of_eq (endB_length _)
  clear ht1 ht2
  generalize sumN (p ++ endB (t1, t2)) = sm at *
  generalize strOf (p ++ endB (t1, t2)) = pe at *
  generalize strOf (endB (t1, t2)) = en at *
  generalize strOf (be 8 t1) = x1 at *
  generalize strOf (be 8 t2) = x2 at *
  generalize strOf (be 4 sm) = x4 at *
  generalize strOf (secMake p (t1, t2)) = res at *
  generalize strOf p = ss at *
  generalize headS p = hs at *
  generalize p.length = n at *
  have hcv0 : ∀ w : World, (convert 31 9 (.slice (some ⟨w.heap.size, 0, none⟩) 1 1)).run Tryd.prog (w.alloc (.cells #[.int .u8 (n : Int)] 5)) = .ok (.string (strOf [UInt8.ofNat n])) (w.alloc (.cells #[.int .u8 (n : Int)] 5)) := fun w => conv_of (by omega) (Blk.new w 5 #[.int .u8 (n : Int)])
  have hwr : IntKind.u8.wrap (n : Int) = (n : Int) := by simp [IntKind.wrap, IntKind.bits, IntKind.signed]; omega
  have HCV := Lib.hid hcv0
  have HWR := Lib.hid hwr
  clear hcv0 hwr
  generalize strOf [UInt8.ofNat n] = x0 at *
  go_enter Tryd.func11, Tryd.ntmps11
  go_wp2_with fail
  have HN := Lib.hid (Blk.new w tTag #[.int .u64 (t1 : Int), .int .u64 (t2 : Int)])
  have HB := Lib.hid ((Bel.refl w).alloc (.cells #[.int .u64 (t1 : Int), .int .u64 (t2 : Int)] tTag))
  change Code.wp _ _ _ _ (w.alloc (.cells #[.int .u64 (t1 : Int), .int .u64 (t2 : Int)] tTag))
  generalize w.alloc (.cells #[.int .u64 (t1 : Int), .int .u64 (t2 : Int)] tTag) = w0 at *
  have HS := Lib.hid fun w' (h : Bel w0 w') => (show Bel w0 w' ∧ w'.cell? ⟨w.heap.size, 0, none⟩ = some (.int .u64 (t1 : Int)) ∧ w'.cell? ⟨w.heap.size, 1, none⟩ = some (.int .u64 (t2 : Int)) from ⟨h, (HN.out.bel h).two⟩)
  have q0 : (9223372036854775807 < x1.size + x2.size) = False := eq_false (by omega)
  refine wp_region_ord [(0, false, true), (1, false, true), (3, false, true), (4, false, true), (2, true, true), (5, true, true), (6, false, true), (7, false, true)]
    (fun w' => Bel w0 w' ∧ w'.cell? ⟨w.heap.size, 0, none⟩ = some (.int .u64 (t1 : Int)) ∧ w'.cell? ⟨w.heap.size, 1, none⟩ = some (.int .u64 (t2 : Int))) (by kernel_rfl) (by kernel_rfl) (by decide) (by kernel_rfl) ?_
  have hS := HS.out _ (Bel.start w0)
  repeat (first
    | (refine O_take _ _ rfl (by rfl) (fun _ _ _ h => h) (by assumption) (fun w hSw => by (simp only [List.getElem_toArray, List.getElem_cons_zero, List.getElem_cons_succ]; go_simp; first | done | with_reducible rfl)) ?_; simp only [Act.put, List.getElem_toArray, List.getElem_cons_zero, List.getElem_cons_succ, List.setIfInBounds_toArray, List.set_cons_zero, List.set_cons_succ])
    | (refine O_pass _ rfl (by rfl) (fun _ _ _ h => h) (by assumption) ?_; simp only [Act.put, List.getElem_toArray, List.getElem_cons_zero, List.getElem_cons_succ, List.setIfInBounds_toArray, List.set_cons_zero, List.set_cons_succ])
    | (refine O_idle _ rfl (by rfl) (by assumption) ?_; simp only [Act.put, List.getElem_toArray, List.getElem_cons_zero, List.getElem_cons_succ, List.setIfInBounds_toArray, List.set_cons_zero, List.set_cons_succ]))
  refine O_act _ rfl (by rfl) (fun K' hK => ?_)
  simp only [List.getElem_toArray, List.getElem_cons_zero, List.getElem_cons_succ]
  go_simp
  (with_reducible refine (B1.out _).mono ?_)
  rintro e w1 ⟨rfl, hb⟩
  have hS := HS.out _ (hS.1.step hb)
  refine hK _ _ hS ?_
  clear hK K' hb
  repeat (first
    | (refine O_take _ _ rfl (by rfl) (fun _ _ _ h => h) (by assumption) (fun w hSw => by (simp only [List.getElem_toArray, List.getElem_cons_zero, List.getElem_cons_succ]; go_simp; first | done | with_reducible rfl)) ?_; simp only [Act.put, List.getElem_toArray, List.getElem_cons_zero, List.getElem_cons_succ, List.setIfInBounds_toArray, List.set_cons_zero, List.set_cons_succ])
    | (refine O_pass _ rfl (by rfl) (fun _ _ _ h => h) (by assumption) ?_; simp only [Act.put, List.getElem_toArray, List.getElem_cons_zero, List.getElem_cons_succ, List.setIfInBounds_toArray, List.set_cons_zero, List.set_cons_succ])
    | (refine O_idle _ rfl (by rfl) (by assumption) ?_; simp only [Act.put, List.getElem_toArray, List.getElem_cons_zero, List.getElem_cons_succ, List.setIfInBounds_toArray, List.set_cons_zero, List.set_cons_succ]))
  refine O_act _ rfl (by rfl) (fun K' hK => ?_)
  simp only [List.getElem_toArray, List.getElem_cons_zero, List.getElem_cons_succ]
  go_simp
  (with_reducible refine (B2.out _).mono ?_)
  rintro e w2 ⟨rfl, hb⟩
  have hS := HS.out _ (hS.1.step hb)
  refine hK _ _ hS ?_
  clear hK K' hb
  repeat (first
    | (refine O_take _ _ rfl (by rfl) (fun _ _ _ h => h) (by assumption) (fun w hSw => by (simp only [List.getElem_toArray, List.getElem_cons_zero, List.getElem_cons_succ]; go_simp; first | done | with_reducible rfl)) ?_; simp only [Act.put, List.getElem_toArray, List.getElem_cons_zero, List.getElem_cons_succ, List.setIfInBounds_toArray, List.set_cons_zero, List.set_cons_succ])
    | (refine O_pass _ rfl (by rfl) (fun _ _ _ h => h) (by assumption) ?_; simp only [Act.put, List.getElem_toArray, List.getElem_cons_zero, List.getElem_cons_succ, List.setIfInBounds_toArray, List.set_cons_zero, List.set_cons_succ])
    | (refine O_idle _ rfl (by rfl) (by assumption) ?_; simp only [Act.put, List.getElem_toArray, List.getElem_cons_zero, List.getElem_cons_succ, List.setIfInBounds_toArray, List.set_cons_zero, List.set_cons_succ]))
  refine O_nil ?_
  (try simp only [NoPanic])
  rw [A1.out]
  have HB2 := Lib.hid (HB.out.step hS.1)
  clear hS HS HN HB q0 z1 z2 B1 B2 A1
  generalize x1 ++ x2 = x12
  have hcv := HCV.out
  have hwr := HWR.out
  have q2 : (9223372036854775807 < x0.size + n) = False := eq_false (by omega)
  go_upto_region 5 with fail
  rw [A4.out]
  have HB3 := Lib.hid (HB2.out.alloc (.cells #[.int .u8 (n : Int)] 5))
  clear hcv hwr q2 A4 HB2 HCV
  generalize w2.alloc (.cells #[.int .u8 (n : Int)] 5) = w3 at *
  go_loopw [7] (fun v wr => ∃ j : Nat, j ≤ 107 - n ∧ v = .string (hs j) ∧ wr = w3) (fun v _ => 200 - strLen v)
  case atStart => exact ⟨0, by omega, rfl, rfl⟩
  case round =>
    obtain ⟨j, hj, rfl, rfl⟩ := hrel
    have hzj := HZ.out j
    by_cases hlt : j < 107 - n
    · have hd2 : decide (((1 + n + j : Nat) : Int) < 108) = true := by simp; omega
      have hI : (1 : Int) + n + j < 108 := by omega
      go_wp2_with fail
      refine ⟨⟨j + 1, by omega, by rw [HH.out j], trivial⟩, ?_⟩
      have h2 := HZ.out (j + 1)
      rw [← HH.out j] at h2
      simp only [strLen]
      omega
    · obtain rfl : j = 107 - n := by omega
      have hI : ¬ (1 : Int) + n + ((107 - n : Nat) : Int) < 108 := by omega
      have hd2 : decide (((1 + n + (107 - n) : Nat) : Int) < 108) = false := by simp; omega
      have hws : IntKind.u64.wrap (sm : Int) = (sm : Int) := by have := HL.out; rw [IntKind.wrap_u64]; omega
      go_wp2_with fail
      rw [A2.out]
      (with_reducible refine (S1.out _).mono ?_)
      rintro e w4 ⟨rfl, rfl⟩
      go_wp2_with fail
      (with_reducible refine (B3.out _).mono ?_)
      rintro e w5 ⟨rfl, hb⟩
      go_wp2_with fail
      rw [A3.out]
      go_returns
      exact ⟨rfl, HB3.out.step hb⟩
end Go.Proofs.YtmcnoekpblkpdaaDoor
