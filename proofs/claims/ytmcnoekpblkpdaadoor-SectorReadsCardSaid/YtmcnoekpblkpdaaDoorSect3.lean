/- sector: Before. -/
import Derived.Test.YtmcnoekpblkpdaaDoorSect2
import Derived.Test.YtmcnoekpblkpdaaDoorLaw
namespace Go.Proofs.YtmcnoekpblkpdaaDoor
open Go.RowKit

def cmpN (x y : Nat) : Int := if x < y then -1 else if y < x then 1 else 0
set_option maxHeartbeats 400000 in
theorem cmp_any (x y : Nat) (w : World) : Calls Tryd.prog 31 #[.int .u64 (x : Int), .int .u64 (y : Int)] w fun e w' => e = .returned (.int .i64 (cmpN x y)) ∧ w = w' := by
  unfold cmpN
  by_cases h1 : x < y
  · rw [if_pos h1]
    have h1' : (x : Int) < (y : Int) := by omega
    have e1 : decide ((x : Int) < (y : Int)) = true := by simpa using h1
    go_enter Tryd.func31, Tryd.ntmps31
    go_wp2
    go_returns
    exact ⟨rfl, rfl⟩
  · rw [if_neg h1]
    by_cases h2 : y < x
    · rw [if_pos h2]
      go_enter Tryd.func31, Tryd.ntmps31
      go_wp2
      go_returns
      exact ⟨rfl, rfl⟩
    · rw [if_neg h2]
      go_enter Tryd.func31, Tryd.ntmps31
      go_wp2
      go_returns
      exact ⟨rfl, rfl⟩
set_option maxHeartbeats 400000 in
theorem or_any (v : Value) (x y : Int) (w : World) (h : IntsAt w v [x, y]) : Calls Tryd.prog 30 #[v] w fun e w' => e = .returned (.int .i64 (if x = 0 then y else x)) ∧ Below w.heap.size w w' := by
  obtain ⟨A, c, rfl, hm, hp⟩ := h
  obtain ⟨b, o, rfl, hb, hc⟩ := hp (by simp)
  have c0 := hc 0 (by simp)
  have c1 := hc 1 (by simp)
  change w.cell? ⟨b, o + 0, none⟩ = some (.int .i64 x) at c0
  change w.cell? ⟨b, o + 1, none⟩ = some (.int .i64 y) at c1
  rw [Nat.add_zero] at c0
  clear hc hp hm
  change Calls _ _ #[.slice (some ⟨b, o, none⟩) 2 c] _ _
  go_enter Tryd.func30, Tryd.ntmps30
  go_wp2_with fail
  go_loopw [8] (fun i wr => ∃ j : Nat, j ≤ 2 ∧ i = .int .i64 j ∧ wr = w ∧ (0 < j → x = 0) ∧ (1 < j → y = 0)) (fun i _ => 2 - (intOf i).toNat)
  case atStart => exact ⟨0, by omega, rfl, rfl, by omega, by omega⟩
  case round =>
    obtain ⟨j, hj, rfl, rfl, h0, h1⟩ := hrel
    have hj3 : j = 0 ∨ j = 1 ∨ j = 2 := by omega
    rcases hj3 with rfl | rfl | rfl
    · by_cases hx : x = 0
      · have e0 : (x != 0) = false := by simp [hx]
        clear h0 h1
        go_wp2_with fail
        exact ⟨⟨1, by omega, rfl, trivial, fun _ => hx, by omega⟩, by simp [intOf]⟩
      · have e0 : (x != 0) = true := by simp [hx]
        clear h0 h1
        go_wp2_with fail
        go_ret
        exact ⟨ret_int (by simp [hx]), Below.refl _ _⟩
    · have hx := h0 (by omega)
      by_cases hy : y = 0
      · have e0 : (y != 0) = false := by simp [hy]
        clear h0 h1
        go_wp2_with fail
        exact ⟨⟨2, by omega, rfl, trivial, fun _ => hx, fun _ => hy⟩, by simp [intOf]⟩
      · have e0 : (y != 0) = true := by simp [hy]
        clear h0 h1
        go_wp2_with fail
        go_ret
        exact ⟨ret_int (by simp [hx]), Below.refl _ _⟩
    · have hx := h0 (by omega)
      have hy := h1 (by omega)
      clear h0 h1
      go_wp2_with fail
      go_ret
      exact ⟨ret_int (by simp [hx, hy]), Below.refl _ _⟩
def beforeT (a b : Nat × Nat) : Bool := decide (a.1 < b.1) || (decide (a.1 = b.1) && decide (a.2 < b.2))
theorem before_law (a1 a2 b1 b2 : Nat) : decide ((if cmpN a1 b1 = 0 then cmpN a2 b2 else cmpN a1 b1) < 0) = beforeT (a1, a2) (b1, b2) := by
  unfold beforeT cmpN
  rw [← Bool.decide_and, ← Bool.decide_or]
  congr 1
  apply propext
  show _ ↔ (a1 < b1 ∨ a1 = b1 ∧ a2 < b2)
  repeat' split
  all_goals omega
set_option maxHeartbeats 400000 in
set_option maxRecDepth 100000 in
theorem before_any (a b : Nat × Nat) (w : World) : Calls Tryd.prog 21 #[tagV a, tagV b] w fun e w' => e = .returned (.bool (beforeT a b)) ∧ Below w.heap.size w w' := by
  obtain ⟨a1, a2⟩ := a
  obtain ⟨b1, b2⟩ := b
  unfold tagV
  go_enter Tryd.func21, Tryd.ntmps21
  go_wp2_with fail
  have hB := ((Below.refl w.heap.size w).alloc (Nat.le_refl _) (.cells #[.int .u64 (a1 : Int), .int .u64 (a2 : Int)] tTag)).alloc (by simp) (.cells #[.int .u64 (b1 : Int), .int .u64 (b2 : Int)] tTag)
  have hA0 := (Blk.new w tTag #[.int .u64 (a1 : Int), .int .u64 (a2 : Int)]).alloc (.cells #[.int .u64 (b1 : Int), .int .u64 (b2 : Int)] tTag)
  have hA1 := Blk.new (w.alloc (.cells #[.int .u64 (a1 : Int), .int .u64 (a2 : Int)] tTag)) tTag #[.int .u64 (b1 : Int), .int .u64 (b2 : Int)]
  rw [World.size_alloc] at hA1
  have c0 := hA0.cell 0
  have c1 := hA0.cell 1
  have c2 := hA1.cell 0
  have c3 := hA1.cell 1
  change _ = some (Value.int .u64 (a1 : Int)) at c0
  change _ = some (Value.int .u64 (a2 : Int)) at c1
  change _ = some (Value.int .u64 (b1 : Int)) at c2
  change _ = some (Value.int .u64 (b2 : Int)) at c3
  have HB := Lib.hid hB
  clear hA0 hA1 hB
  change Code.wp _ _ _ _ ((w.alloc (.cells #[.int .u64 (a1 : Int), .int .u64 (a2 : Int)] tTag)).alloc (.cells #[.int .u64 (b1 : Int), .int .u64 (b2 : Int)] tTag))
  generalize (w.alloc (.cells #[.int .u64 (a1 : Int), .int .u64 (a2 : Int)] tTag)).alloc (.cells #[.int .u64 (b1 : Int), .int .u64 (b2 : Int)] tTag) = w0 at *
  have N1 : Hid (∀ w, Calls Tryd.prog 31 #[.int .u64 (a1 : Int), .int .u64 (b1 : Int)] w fun e w' => e = .returned (.int .i64 (cmpN a1 b1)) ∧ w' = w) := Lib.hid fun w => (cmp_any a1 b1 w).mono fun e w' h => ⟨h.1, h.2.symm⟩
  have N2 : Hid (∀ w, Calls Tryd.prog 31 #[.int .u64 (a2 : Int), .int .u64 (b2 : Int)] w fun e w' => e = .returned (.int .i64 (cmpN a2 b2)) ∧ w' = w) := Lib.hid fun w => (cmp_any a2 b2 w).mono fun e w' h => ⟨h.1, h.2.symm⟩
  refine wp_region_still_tail 10 (by kernel_rfl) (by kernel_rfl) ?_
  simp only [List.take_succ_cons, List.take_zero, List.drop_succ_cons, List.drop_zero]
  repeat still_step
  refine wpStill_step (fun K hK => ?_)
  go_simp
  refine ⟨_, N1.out _, hK _ ?_⟩
  clear hK K
  repeat still_step
  refine wpStill_step (fun K hK => ?_)
  go_simp
  refine ⟨_, N2.out _, hK _ ?_⟩
  clear hK K
  repeat still_step
  refine wpStill_nil ?_
  change wpList _ _ _ _ _ w0.drew
  go_wp2_with fail
  have hN := (Blk.new w0 3 #[.int .i64 (cmpN a1 b1), .int .i64 (cmpN a2 b2)]).drew
  have hI : IntsAt (w0.alloc (.cells #[.int .i64 (cmpN a1 b1), .int .i64 (cmpN a2 b2)] 3)).drew (.slice (some ⟨w0.heap.size, 0, none⟩) 2 2) [cmpN a1 b1, cmpN a2 b2] := by
    refine ⟨_, 2, rfl, by simp, fun _ => ⟨w0.heap.size, 0, rfl, hN.lt, fun i hi => ?_⟩⟩
    rw [Nat.zero_add, hN.cell]
    have : i = 0 ∨ i = 1 := by simp at hi; omega
    rcases this with rfl | rfl <;> rfl
  have HB1 := Lib.hid ((HB.out.alloc HB.out.size (.cells #[.int .i64 (cmpN a1 b1), .int .i64 (cmpN a2 b2)] 3)).drew)
  have HO := Lib.hid (or_any _ _ _ _ hI)
  have HV : Hid (decide ((if cmpN a1 b1 = 0 then cmpN a2 b2 else cmpN a1 b1) < 0) = beforeT (a1, a2) (b1, b2)) := Lib.hid (before_law a1 a2 b1 b2)
  clear hI hN c0 c1 c2 c3
  generalize cmpN a1 b1 = x at *
  generalize cmpN a2 b2 = y at *
  generalize (w0.alloc (.cells #[.int .i64 x, .int .i64 y] 3)).drew = w1 at *
  refine (HO.out).mono ?_
  rintro e w2 ⟨rfl, hb2⟩
  have HB2 := Lib.hid (HB1.out.trans (hb2.mono HB1.out.size))
  clear hb2
  generalize (if x = 0 then y else x) = z at *
  go_wp2_with fail
  go_ret
  rw [← HV.out]
  exact ⟨rfl, HB2.out⟩
end Go.Proofs.YtmcnoekpblkpdaaDoor
