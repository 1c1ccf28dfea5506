/- DiskOrder: however many writes there are to one sector, and whichever of them is kept: the law returns true, and leaves its arguments as they were. No condition beside the row's own. -/
import Derived.Test.YtmhmfcphjfgppaaDiskTwo2
namespace Go.Proofs.Ytmhmfcphjfgppaa
open Go.RowKit Go.ChangeShapes Go.WideShapes Go.ChangeAt Go.ChangeMaps

theorem byte_o (k : Nat) (h : k < 12) : (1 + (k : Int)) = ((UInt8.ofNat (1 + k)).toNat : Int) := by
  have : (UInt8.ofNat (1 + k)).toNat = 1 + k := by simp; omega
  rw [this]; omega
theorem DOr.own {W w : World} {b1 sb1 mb1 b2 sb2 mb2 k i1 i2 i3 : Nat} {fv : Value} (h : DOr W w b1 sb1 mb1 b2 sb2 mb2 k fv i1 i2 i3) : w.ownsRow 0 tFate 2 fv i3 (fateCells (ordFates i3 k)) := by obtain ⟨_, _, _, _, _, h, _⟩ := h; exact h
set_option maxRecDepth 100000 in
set_option maxHeartbeats 4000000 in
theorem diskOrder_walk (n0 k0 : Int) (W : World) :
    Calls Try.prog 8 #[.int .i64 n0, .int .i64 k0] W fun e w' => e = .returned (.bool true) ∧ Below W.heap.size W w' := by
  have haw := awake_any W
  have HAW := Lib.hid haw
  clear haw
  have h1 := Int.tmod_lt_of_pos n0 (show (0 : Int) < 12 by decide)
  have h2 := Int.lt_tmod_of_pos n0 (show (0 : Int) < 12 by decide)
  have hz0 := Int.emod_nonneg n0 (show (12 : Int) ≠ 0 by decide)
  have hz1 := Int.emod_lt_of_pos n0 (show (0 : Int) < 12 by decide)
  have hf := tmod_fix n0 12 (by decide)
  obtain ⟨z, hz⟩ : ∃ z : Nat, n0 % 12 = (z : Int) := ⟨(n0 % 12).toNat, by omega⟩
  rw [hz] at hf hz0 hz1
  clear hz
  go_enter Try.func8, Try.ntmps8
  go_wp2_with fail
  refine (HAW.out).mono ?_
  rintro e w1 ⟨rfl, hb1⟩
  have HB1 := Lib.hid hb1
  clear hb1 HAW
  go_upto_region 3 with fail
  obtain ⟨N, hNz⟩ : ∃ N : Nat, N = 1 + z := ⟨_, rfl⟩
  rw [show 1 + (z : Int) = (N : Int) by omega]
  have hN1 : (1 : Int) ≤ (N : Int) := by omega
  have hN2 : (N : Int) ≤ 12 := by omega
  clear h1 h2 hf hz0 hz1 hNz
  have b1 := Int.tmod_lt_of_pos k0 (show (0 : Int) < (N : Int) by omega)
  have b2 := Int.lt_tmod_of_pos k0 (show (0 : Int) < (N : Int) by omega)
  have hk0 := Int.emod_nonneg k0 (show (N : Int) ≠ 0 by omega)
  have hk1 := Int.emod_lt_of_pos k0 (show (0 : Int) < (N : Int) by omega)
  have hkf := tmod_fix k0 N (by omega)
  obtain ⟨k, hk⟩ : ∃ k : Nat, k0 % (N : Int) = (k : Int) := ⟨(k0 % (N : Int)).toNat, by omega⟩
  rw [hk] at hkf hk0 hk1
  have hN3 : ¬ (N : Int) = 0 := by omega
  go_upto_region 4 with fail
  rw [hkf]
  have hkN : k < N := by omega
  clear b1 b2 hk0 hk1 hkf hk hN3
  go_wp2_with fail
  refine (new_go 2 w1 (by decide) (by decide)).mono ?_
  rintro e w2 ⟨rfl, hD2, _⟩
  have HD2 := Lib.hid (hD2.rebase HB1.out)
  clear hD2
  go_wp2_with fail
  refine (new_go 2 w2 (by decide) (by decide)).mono ?_
  rintro e w3 ⟨rfl, hD3, _⟩
  have hDK := Dk2.make HD2.out hD3
  clear hD3 HD2
  generalize w1.heap.size + 2 = a1 at *
  generalize w1.heap.size + 1 = m1 at *
  generalize w1.heap.size = s1 at *
  generalize w2.heap.size + 2 = a2 at *
  generalize w2.heap.size + 1 = m2 at *
  generalize w2.heap.size = s2 at *
  have HI0 : Hid (DOr W w3 a1 s1 m1 a2 s2 m2 k (.slice none 0 0) 0 0 0) := Lib.hid ⟨_, _, hDK, ⟨rfl, rfl, rfl, rfl⟩, ⟨rfl, rfl, rfl, rfl⟩, World.ownsRow_nil _ _ _ _, fun g hg => by cases hg⟩
  clear hDK
  go_wp2_with fail
  go_loopw [10, 11] (fun f i wr => ∃ j : Nat, j ≤ N ∧ i = .int .i64 j ∧ DOr W wr a1 s1 m1 a2 s2 m2 k f j j j) (fun _ i _ => N - (intOf i).toNat)
  case atStart => exact ⟨0, by omega, rfl, HI0.out⟩
  case round =>
    clear HI0
    obtain ⟨j, hjN, rfl, hI⟩ := hrel
    have HI := Lib.hid hI
    clear hI
    by_cases hlt : j < N
    focus
      have hj12 : j < 12 := by omega
      have hltI : (j : Int) < (N : Int) := by omega
      have HC := Lib.hid (byte_o j hj12)
      have HCE : Hid (UInt8.ofNat (1 + j) = UInt8.ofNat (1 + j)) := Lib.hid rfl
      obtain ⟨c, hc⟩ : ∃ c, UInt8.ofNat (1 + j) = c := ⟨_, rfl⟩
      rw [hc] at HC
      have HCC := Lib.hid hc
      clear hc HCE
      go_wp2_with fail
      (with_reducible refine (fill_any (1 + (j : Int)) c HC.out _).mono ?_)
      rintro e w4 ⟨rfl, hb4⟩
      have HI4 := Lib.hid (HI.out.more hb4)
      clear hb4 HI
      go_wp2_with fail
      (with_reducible refine (HI4.out.write1 hj12 c HCC.out.symm).mono ?_)
      rintro e w5 ⟨rfl, hI5⟩
      have HI5 := Lib.hid hI5
      clear hI5 HI4
      go_wp2_with fail
      (with_reducible refine (fill_any (1 + (j : Int)) c HC.out _).mono ?_)
      rintro e w6 ⟨rfl, hb6⟩
      have HI6 := Lib.hid (HI5.out.more hb6)
      clear hb6 HI5
      go_wp2_with fail
      (with_reducible refine (HI6.out.write2 hj12 c HCC.out.symm).mono ?_)
      rintro e w7 ⟨rfl, hI7⟩
      have HI7 := Lib.hid hI7
      clear hI7 HI6
      go_wp2_with fail
      (with_reducible refine (HI7.out.dirty).mono ?_)
      rintro e w8 ⟨A, cp, rfl, hI8⟩
      have HI8 := Lib.hid hI8
      clear hI8 HI7
      have hfb : u10.ownBlock ≠ some w8.heap.size := fun e => Nat.lt_irrefl _ (own_lt HI8.out.own e)
      obtain ⟨fb, hfbe⟩ : ∃ fb, w8.heap.size = fb := ⟨_, rfl⟩
      by_cases hjk : j = k
      focus
        have hjkI : (j : Int) = (k : Int) := by omega
        have IFJK : (if j = k then (1 : Int) else 0) = 1 := if_pos hjk
        have HJK := Lib.hid hjk
        clear hjk
        go_upto_region 19 with fail
        have hfx : Blk (w8.alloc (.cells #[.int .i64 1, .int .i64 0] tFate)) w8.heap.size tFate #[.int .i64 1, .int .i64 0] := Blk.new w8 tFate #[.int .i64 1, .int .i64 0]
        have hix := HI8.out.more ((Below.refl _ _).alloc (Nat.le_refl _) (.cells #[.int .i64 1, .int .i64 0] tFate))
        have hfc : fateCells (ordFates j k) ++ [.int .i64 1, .int .i64 0] = fateCells (ordFates (j + 1) k) := by rw [ordFates_succ, fateCells_snoc, IFJK]
        have HFC := Lib.hid hfc
        have HIx := Lib.hid hix
        have hS0 := hfx.cell 0
        have hS1 := hfx.cell 1
        clear hfx hix HI8 hfc IFJK
        change _ = some (Value.int .i64 1) at hS0
        change _ = some (Value.int .i64 0) at hS1
        rw [hfbe] at *
        generalize hgx : (w8.alloc (.cells #[.int .i64 1, .int .i64 0] tFate)) = wx at *
        clear hgx
        go_wp2_with (first | (refine L_append1 rfl (.tmp 76) (.tmp 78) 41 rfl Try.underlying41 infoFate rfl (by decide) u10 j (fateCells (ordFates j k)) rfl (by exact (HIx.out.more ((Below.refl _ _).alloc (Nat.le_refl _) _)).own) _ 1 [.int .i64 1, .int .i64 0] rfl (by exact Blk.new _ _ _) rfl (by simp [Value.oneCell']) (by simp only [maxLen]; omega) (by omega) ?_; intro g cap w9 hown hg hat hlt))
        have hiy := HIx.out.more ((Below.refl _ _).alloc (Nat.le_refl _) (.cells #[.int .i64 1, .int .i64 0] tFate))
        rw [HFC.out] at hown
        have HI9 := Lib.hid (hiy.grown hown hg hat)
        clear hiy hown hg
        have e := HJK.out
        subst e
        refine ⟨⟨_, ?_, ?_, HI9.out⟩, ?_⟩
        · omega
        · go_num
        · simp [intOf]; omega
      focus
        have hjkI : ¬ ((j : Int) = (k : Int)) := by omega
        have IFJK : (if j = k then (1 : Int) else 0) = 0 := if_neg hjk
        go_upto_region 19 with fail
        have hfx : Blk (w8.alloc (.cells #[.int .i64 0, .int .i64 0] tFate)) w8.heap.size tFate #[.int .i64 0, .int .i64 0] := Blk.new w8 tFate #[.int .i64 0, .int .i64 0]
        have hix := HI8.out.more ((Below.refl _ _).alloc (Nat.le_refl _) (.cells #[.int .i64 0, .int .i64 0] tFate))
        have hfc : fateCells (ordFates j k) ++ [.int .i64 0, .int .i64 0] = fateCells (ordFates (j + 1) k) := by rw [ordFates_succ, fateCells_snoc, IFJK]
        have HFC := Lib.hid hfc
        have HIx := Lib.hid hix
        have hS0 := hfx.cell 0
        have hS1 := hfx.cell 1
        clear hfx hix HI8 hfc IFJK
        change _ = some (Value.int .i64 0) at hS0
        change _ = some (Value.int .i64 0) at hS1
        rw [hfbe] at *
        generalize hgx : (w8.alloc (.cells #[.int .i64 0, .int .i64 0] tFate)) = wx at *
        clear hgx
        go_wp2_with (first | (refine L_append1 rfl (.tmp 76) (.tmp 78) 41 rfl Try.underlying41 infoFate rfl (by decide) u10 j (fateCells (ordFates j k)) rfl (by exact (HIx.out.more ((Below.refl _ _).alloc (Nat.le_refl _) _)).own) _ 1 [.int .i64 0, .int .i64 0] rfl (by exact Blk.new _ _ _) rfl (by simp [Value.oneCell']) (by simp only [maxLen]; omega) (by omega) ?_; intro g cap w9 hown hg hat hlt))
        have hiy := HIx.out.more ((Below.refl _ _).alloc (Nat.le_refl _) (.cells #[.int .i64 0, .int .i64 0] tFate))
        rw [HFC.out] at hown
        have HI9 := Lib.hid (hiy.grown hown hg hat)
        clear hiy hown hg
        exact ⟨⟨j + 1, by omega, by go_num, HI9.out⟩, by simp [intOf]; omega⟩
    focus
      obtain rfl : j = N := by omega
      obtain ⟨n, hn⟩ : ∃ n, j = n + 1 := ⟨j - 1, by omega⟩
      have HI1 : Hid (DOr W wr a1 s1 m1 a2 s2 m2 k u10 (n + 1) (n + 1) (n + 1)) := Lib.hid (by have := HI.out; rwa [hn] at this)
      have HN := Lib.hid hn
      have hlt' : k < n + 1 := by omega
      clear HI hn
      go_wp2_with fail
      (with_reducible refine (HI1.out.sync).mono ?_)
      rintro e w4 ⟨rfl, hS⟩
      have HS := Lib.hid hS
      clear hS HI1
      have hle : decide (1 < n + 1) = decide ((1 : Int) < (j : Int)) := by have := HN.out; congr 1; apply propext; omega
      have hbn : (j : Int) = ((UInt8.ofNat (1 + n)).toNat : Int) := by have h := byte_o n (by have := HN.out; omega); rw [← h]; have := HN.out; omega
      have hbk : (1 + (k : Int)) = ((UInt8.ofNat (1 + k)).toNat : Int) := byte_o k (by omega)
      have HBN := Lib.hid hbn
      have HBK := Lib.hid hbk
      have HLE := Lib.hid hle
      have HKL := Lib.hid hlt'
      clear hbn hbk hle hlt'
      have F1 := Lib.hid fun w => fill_any (j : Int) (UInt8.ofNat (1 + n)) HBN.out w
      have F2 := Lib.hid fun w => fill_any (1 + (k : Int)) (UInt8.ofNat (1 + k)) HBK.out w
      have RD1 := Lib.hid fun w (h : DOc W w a1 s1 m1 a2 s2 m2 k n) => h.read1
      have RD2 := Lib.hid fun w (h : DOc W w a1 s1 m1 a2 s2 m2 k n) => h.read2
      generalize strOf (fillB (UInt8.ofNat (1 + n))) = sn at *
      generalize strOf (fillB (UInt8.ofNat (1 + k))) = sk at *
      go_wp2_with fail
      (with_reducible refine (HS.out.crash HKL.out).mono ?_)
      rintro e w5 ⟨rfl, hC⟩
      rw [HLE.out]
      have HC5 := Lib.hid hC
      clear hC HS
      go_wp2_with fail
      (with_reducible refine (RD1.out _ HC5.out).mono ?_)
      rintro e w6 ⟨rfl, hC⟩
      have HC6 := Lib.hid hC
      clear hC HC5
      go_wp2_with fail
      (with_reducible refine (RD2.out _ HC6.out).mono ?_)
      rintro e w7 ⟨rfl, hC⟩
      have HC7 := Lib.hid hC
      clear hC HC6
      go_wp2_with fail
      (with_reducible refine (F1.out _).mono ?_)
      rintro e w8 ⟨rfl, hb⟩
      have HC8 := Lib.hid (HC7.out.more hb)
      clear hb HC7
      go_wp2_with fail
      (with_reducible refine (F2.out _).mono ?_)
      rintro e w9 ⟨rfl, hb⟩
      have HC9 := Lib.hid (HC8.out.more hb)
      clear hb HC8
      go_wp2_with fail
      go_ret
      exact ⟨rfl, HC9.out.bel⟩
end Go.Proofs.Ytmhmfcphjfgppaa

