/- sector: the document's Sum, big, number, Before; the law's short; strings.Trim at one byte. -/
import Derived.Test.YtmcnoekpblkpdaaDoorSecL
namespace Go.Proofs.YtmcnoekpblkpdaaDoor
open Go.RowKit

theorem strOf_size (s : List UInt8) : (strOf s).size = s.length := rfl
theorem strOf_append (s t : List UInt8) : strOf s ++ strOf t = strOf (s ++ t) := by
  unfold strOf
  apply ByteArray.ext
  simp
theorem strOf_inj {s t : List UInt8} (h : strOf s = strOf t) : s = t := by
  unfold strOf at h
  have := congrArg (fun b => b.data.toList) h
  simpa using this
theorem sumStep_1 (s : List UInt8) (j : Nat) (h : j < s.length) : ((sumF (s.take (j + 1))).1 : Int) = (((sumF (s.take j)).1 : Int) + s[j].toNat) % 65521 := by
  rw [List.take_succ_eq_append_getElem h, sumF_snoc]
  simp only [sumStep]; omega
theorem sumStep_2 (s : List UInt8) (j : Nat) (h : j < s.length) : ((sumF (s.take (j + 1))).2 : Int) = (((sumF (s.take j)).2 : Int) + (((sumF (s.take j)).1 : Int) + s[j].toNat)) % 65521 := by
  rw [List.take_succ_eq_append_getElem h, sumF_snoc]
  simp only [sumStep]; omega
set_option maxHeartbeats 400000 in
set_option maxRecDepth 100000 in
theorem rsum_any (s : List UInt8) (hs : s.length ≤ 4096) (w : World) : Calls Tryd.prog 20 #[.string (strOf s)] w fun e w' => e = .returned (.int .u32 (sumN s : Nat)) ∧ w = w' := by
  obtain ⟨ss, hss⟩ : ∃ ss, strOf s = ss := ⟨_, rfl⟩
  rw [hss]
  have hsz : ss.size = s.length := by rw [← hss]; rfl
  have HSS := Lib.hid hss
  have HSZ := Lib.hid hsz
  clear hss hsz
  go_enter Tryd.func20, Tryd.ntmps20
  go_wp2_with fail
  go_loopw [3, 4, 5] (fun a b i wr => ∃ j : Nat, j ≤ s.length ∧ a = .int .u32 ((sumF (s.take j)).1 : Nat) ∧ b = .int .u32 ((sumF (s.take j)).2 : Nat) ∧ i = .int .i64 j ∧ wr = w) (fun _ _ i _ => s.length - (intOf i).toNat)
  case atStart => exact ⟨0, by omega, rfl, rfl, rfl, rfl⟩
  case round =>
    obtain ⟨j, hj, rfl, rfl, rfl, rfl⟩ := hrel
    obtain ⟨b1, b2⟩ := sumF_lt (s.take j)
    by_cases hlt : j < s.length
    · have hj2 : (j : Int) + 1 ≤ 4096 := by omega
      have hjs : j < ss.size := by have := HSZ.out; omega
      have hgj : ss[j] = s[j] := str_at s ss HSS.out j hlt hjs
      have H1 := Lib.hid (sumStep_1 s j hlt)
      have H2 := Lib.hid (sumStep_2 s j hlt)
      have hc : s[j].toNat < 256 := s[j].toNat_lt
      generalize s[j] = c at *
      generalize (sumF (s.take j)).1 = a at *
      generalize (sumF (s.take j)).2 = b at *
      go_wp2_with fail
      refine ⟨⟨j + 1, by omega, ?_, ?_, by go_num, trivial⟩, by simp [intOf]; omega⟩
      · rw [H1.out]; first | done | (congr 1; omega)
      · rw [H2.out]; first | done | (congr 1; omega)
    · obtain rfl : j = s.length := by omega
      have hjs : ¬ s.length < ss.size := by have := HSZ.out; omega
      rw [List.take_length] at *
      have HSN : Hid (sumN s = (sumF s).2 * 65536 + (sumF s).1) := Lib.hid rfl
      generalize (sumF s).1 = a at *
      generalize (sumF s).2 = b at *
      have HOR : Hid (((b : Int) * 65536 % 4294967296 + a) % 4294967296 = ((b * 65536 + a : Nat) : Int)) := Lib.hid (by omega)
      clear b1 b2
      go_wp2_with fail
      go_ret
      exact ⟨ret_int (by rw [HSN.out]; rw [← HOR.out]; first | done | simp [IntKind.wrap, IntKind.bits, IntKind.signed]), rfl⟩

theorem one_str (w : World) (c : Nat) (h : c < 256) : (convert 31 9 (.slice (some ⟨w.heap.size, 0, none⟩) 1 1)).run Tryd.prog (w.alloc (.cells #[.int .u8 (c : Int)] 5)) = .ok (.string (strOf [UInt8.ofNat c])) (w.alloc (.cells #[.int .u8 (c : Int)] 5)) := by
  have hb := Blk.new w 5 #[.int .u8 (c : Int)]
  have hc : (UInt8.ofNat c).toNat = c := by rw [UInt8.toNat_ofNat']; omega
  have := run_bytes_str (P := Tryd.prog) (cap := 1) (s := [UInt8.ofNat c]) (off := 0) hb (by simp [byteCells, hc]) Tryd.underlying31 Tryd.underlying5 Tryd.underlying9
  exact this
set_option maxHeartbeats 400000 in
set_option maxRecDepth 100000 in
theorem big_any (m : Nat) (hm : m < 18446744073709551616) (k : Nat) (hk : k ≤ 8) (w : World) : Calls Tryd.prog 23 #[.int .u64 (m : Int), .int .i64 (k : Int)] w fun e w' => e = .returned (.string (strOf (be k m))) ∧ Below w.heap.size w w' := by
  have HM := Lib.hid hm
  clear hm
  go_enter Tryd.func23, Tryd.ntmps23
  go_wp2_with fail
  go_loopw [0, 5, 6] (fun n s i wr => ∃ j : Nat, j ≤ k ∧ n = .int .u64 ((m / 256 ^ j : Nat) : Int) ∧ s = .string (strOf (be j m)) ∧ i = .int .i64 j ∧ Below w.heap.size w wr) (fun _ _ i _ => k - (intOf i).toNat)
  case atStart => exact ⟨0, by omega, by simp, rfl, rfl, Below.refl _ _⟩
  case round =>
    obtain ⟨j, hj, rfl, rfl, rfl, hB⟩ := hrel
    have HB := Lib.hid hB
    clear hB
    by_cases hlt : j < k
    · have H1 : Hid (m / 256 ^ (j + 1) = m / 256 ^ j / 256) := Lib.hid (by rw [Nat.pow_succ, Nat.div_div_eq_div_mul])
      have H2 : Hid (be (j + 1) m = UInt8.ofNat (m / 256 ^ j % 256) :: be j m) := Lib.hid (by
        simp only [be]; congr 1; apply UInt8.toNat.inj; simp only [UInt8.toNat_ofNat']; omega)
      have HQ : Hid (IntKind.u64.wrap ((m / 256 ^ j : Nat) / 256 : Int) = ((m / 256 ^ j / 256 : Nat) : Int)) := Lib.hid (by
        have h1 : m / 256 ^ j ≤ m := Nat.div_le_self _ _
        have h2 := HM.out
        generalize m / 256 ^ j = n at *
        rw [IntKind.wrap_u64]; omega)
      have hz1 : (strOf [UInt8.ofNat (m / 256 ^ j % 256)]).size ≤ 1 := Nat.le_refl _
      have hz2 : (strOf (be j m)).size ≤ 8 := by rw [strOf_size, be_length]; omega
      generalize m / 256 ^ j = n at *
      generalize be j m = t at *
      have hcv := one_str wr (n % 256) (Nat.mod_lt _ (by decide))
      rw [show ((n % 256 : Nat) : Int) = (n : Int) % 256 by omega] at hcv
      go_wp2_with fail
      refine ⟨⟨j + 1, by omega, ?_, ?_, by go_num, HB.out.alloc HB.out.size _⟩, by simp [intOf]; omega⟩
      · rw [H1.out, HQ.out]
      · rw [H2.out, strOf_append]; rfl
    · obtain rfl : j = k := by omega
      go_wp2_with fail
      go_ret
      exact ⟨rfl, HB.out⟩

set_option maxHeartbeats 400000 in
set_option maxRecDepth 100000 in
theorem rnumber_any (s : List UInt8) (hs : s.length = 8) (w : World) : Calls Tryd.prog 26 #[.string (strOf s)] w fun e w' => e = .returned (.int .u64 (foldN 0 s : Nat)) ∧ w = w' := by
  obtain ⟨ss, hss⟩ : ∃ ss, strOf s = ss := ⟨_, rfl⟩
  rw [hss]
  have hsz : ss.size = s.length := by rw [← hss]; rfl
  have HSS := Lib.hid hss
  have HSZ := Lib.hid hsz
  have HS := Lib.hid hs
  clear hss hsz hs
  go_enter Tryd.func26, Tryd.ntmps26
  go_wp2_with fail
  go_loopw [3, 4] (fun n i wr => ∃ j : Nat, j ≤ 8 ∧ n = .int .u64 (foldN 0 (s.take j) : Nat) ∧ i = .int .i64 j ∧ wr = w) (fun _ i _ => 8 - (intOf i).toNat)
  case atStart => exact ⟨0, by omega, rfl, rfl, rfl⟩
  case round =>
    obtain ⟨j, hj, rfl, rfl, rfl⟩ := hrel
    by_cases hlt : j < 8
    · have hj2 : (j : Int) + 1 ≤ 8 := by omega
      have hlt' : j < s.length := by have := HS.out; omega
      have hjs : j < ss.size := by have := HSZ.out; have := HS.out; omega
      have hgj : ss[j] = s[j] := str_at s ss HSS.out j hlt' hjs
      have hF : foldN 0 (s.take j) < 72057594037927936 := by
        have := foldN_lt (s.take j) 0 0 (by decide)
        rw [List.length_take, Nat.min_eq_left (by omega)] at this
        exact Nat.lt_of_lt_of_le this (by have := Nat.pow_le_pow_right (n := 2) (i := 0 + 8 * j) (j := 56) (by decide) (by omega); exact this)
      have hc := s[j].toNat_lt
      have HF := Lib.hid hF
      have HSN : Hid (foldN 0 (s.take j) * 256 + s[j].toNat = foldN 0 (s.take (j + 1))) := Lib.hid (by rw [List.take_succ_eq_append_getElem hlt', foldN_snoc])
      clear hF
      generalize s[j] = c at *
      generalize foldN 0 (s.take j) = n at *
      go_wp2_with fail
      refine ⟨⟨j + 1, by omega, ?_, by go_num, trivial⟩, by simp [intOf]; omega⟩
      rw [← HSN.out]
      have := HF.out
      congr 1
      simp [IntKind.wrap, IntKind.bits, IntKind.signed]
      omega
    · obtain rfl : j = 8 := by omega
      go_wp2_with fail
      go_ret
      rw [List.take_of_length_le (by have := HS.out; omega)]
      exact ⟨rfl, rfl⟩

set_option maxHeartbeats 400000 in
set_option maxRecDepth 100000 in
theorem rbefore_any (a b : Nat × Nat) (w : World) : Calls Tryd.prog 22 #[tagV a, tagV b] w fun e w' => e = .returned (.bool (beforeT a b)) ∧ Below w.heap.size w w' := by
  obtain ⟨a1, a2⟩ := a
  obtain ⟨b1, b2⟩ := b
  have HV : Hid (beforeT (a1, a2) (b1, b2) = (decide (a1 < b1) || (decide (a1 = b1) && decide (a2 < b2)))) := Lib.hid rfl
  unfold tagV
  generalize beforeT (a1, a2) (b1, b2) = r at *
  have hfin : ∀ w' : World, w' = (w.alloc (.cells #[.int .u64 (a1 : Int), .int .u64 (a2 : Int)] tTag)).alloc (.cells #[.int .u64 (b1 : Int), .int .u64 (b2 : Int)] tTag) → Below w.heap.size w w' := by
    rintro w' rfl; exact ((Below.refl _ _).alloc (Nat.le_refl _) _).alloc (by simp) _
  have HF := Lib.hid hfin
  clear hfin
  go_enter Tryd.func22, Tryd.ntmps22
  by_cases h1 : a1 < b1
  · have e1 : decide ((a1 : Int) < (b1 : Int)) = true := by simpa using h1
    go_wp2
    go_ret
    exact ⟨by rw [HV.out]; simp [h1], HF.out _ rfl⟩
  · have e1 : decide ((a1 : Int) < (b1 : Int)) = false := by simpa using h1
    by_cases h2 : a1 = b1
    · subst h2
      clear h1
      have e2 : ((a1 : Int) == (a1 : Int)) = true := by simp
      go_wp2
      go_ret
      exact ⟨by rw [HV.out]; simp, HF.out _ rfl⟩
    · have e2 : ((a1 : Int) == (b1 : Int)) = false := by rw [beq_eq_false_iff_ne]; omega
      go_wp2
      go_ret
      exact ⟨by rw [HV.out]; simp [h1, h2], HF.out _ rfl⟩

set_option maxHeartbeats 400000 in
theorem short_any (s : List UInt8) (n : Nat) (w : World) (hs : s.length ≤ 9223372036854775807) : Calls Tryd.prog 10 #[.string (strOf s), .int .i64 (n : Int)] w fun e w' => e = .returned (.string (strOf (s.take n))) ∧ w = w' := by
  obtain ⟨ss, hss⟩ : ∃ ss, strOf s = ss := ⟨_, rfl⟩
  rw [hss]
  have hsz : ss.size = s.length := by rw [← hss]; rfl
  have HSS := Lib.hid hss
  have HSZ := Lib.hid hsz
  clear hss hsz
  by_cases h : n < s.length
  · have hn : n < ss.size := by have := HSZ.out; omega
    have hn2 : n ≤ ss.size := by omega
    have hn1 : decide ((n : Int) < (ss.size : Int)) = true := by simpa using hn
    go_enter Tryd.func10, Tryd.ntmps10
    go_wp2
    go_ret
    refine ⟨?_, rfl⟩
    rw [← HSS.out, extract_strOf]
    simp
  · have hn : ¬ n < ss.size := by have := HSZ.out; omega
    have hn1 : decide ((n : Int) < (ss.size : Int)) = false := by simpa using hn
    go_enter Tryd.func10, Tryd.ntmps10
    go_wp2
    go_ret
    exact ⟨by rw [List.take_of_length_le (by omega), HSS.out]; rfl, rfl⟩
end Go.Proofs.YtmcnoekpblkpdaaDoor
