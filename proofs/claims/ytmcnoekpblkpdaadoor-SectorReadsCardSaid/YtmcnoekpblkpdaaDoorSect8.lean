/- sector: Is; the chapter's example. -/
import Derived.Test.YtmcnoekpblkpdaaDoorSect7
namespace Go.Proofs.YtmcnoekpblkpdaaDoor
open Go.RowKit

def isB (s : List UInt8) (t : Nat × Nat) : Bool := match secRead s with
  | some x => x.2.1 == t.1 && x.2.2 == t.2
  | none => false
set_option maxHeartbeats 400000 in
set_option maxRecDepth 100000 in
theorem is_any (s : List UInt8) (t : Nat × Nat) (w : World) : Calls Tryd.prog 16 #[.string (strOf s), tagV t] w fun e w' => e = .returned (.bool (isB s t)) ∧ Below w.heap.size w w' := by
  obtain ⟨t1, t2⟩ := t
  have R1 := Lib.hid fun w => read_any s w
  cases hr : secRead s with
  | none =>
    have HI : Hid (isB s (t1, t2) = false) := Lib.hid (by unfold isB; rw [hr])
    rw [hr] at R1
    have R2 : Hid (∀ w, Calls Tryd.prog 12 #[.string (strOf s)] w fun e w' => e = .returned (.tuple #[.string ⟨#[]⟩, .agg #[.int .u64 0, .int .u64 0], .bool false]) ∧ Below w.heap.size w w') := Lib.hid fun w => R1.out w
    clear R1 hr
    unfold tagV
    generalize strOf s = ss at *
    go_enter Tryd.func16, Tryd.ntmps16
    go_wp2_with fail
    (with_reducible refine (R2.out _).mono ?_)
    rintro e w1 ⟨rfl, hb⟩
    have HB := Lib.hid (((Bel.refl w).alloc _).step hb)
    clear hb
    go_wp2_with fail
    go_ret
    exact ⟨by rw [HI.out]; rfl, HB.out.alloc _⟩
  | some x =>
    obtain ⟨p, u1, u2⟩ := x
    have HI : Hid (isB s (t1, t2) = (u1 == t1 && u2 == t2)) := Lib.hid (by unfold isB; rw [hr])
    rw [hr] at R1
    have R2 : Hid (∀ w, Calls Tryd.prog 12 #[.string (strOf s)] w fun e w' => e = .returned (.tuple #[.string (strOf p), .agg #[.int .u64 (u1 : Int), .int .u64 (u2 : Int)], .bool true]) ∧ Below w.heap.size w w') := Lib.hid fun w => R1.out w
    clear R1 hr
    unfold tagV
    generalize strOf s = ss at *
    generalize strOf p = sp at *
    go_enter Tryd.func16, Tryd.ntmps16
    go_wp2_with fail
    (with_reducible refine (R2.out _).mono ?_)
    rintro e w1 ⟨rfl, hb⟩
    have hN := (Blk.new w tTag #[.int .u64 (t1 : Int), .int .u64 (t2 : Int)]).below hb (by simp)
    have hN1 := hN.alloc (.cells #[.int .u64 (u1 : Int), .int .u64 (u2 : Int)] tTag)
    have c0 := hN1.cell 0
    have c1 := hN1.cell 1
    change _ = some (Value.int .u64 (t1 : Int)) at c0
    change _ = some (Value.int .u64 (t2 : Int)) at c1
    have HB := Lib.hid (((Bel.refl w).alloc _).step hb)
    clear hb hN hN1
    go_wp2_with fail
    all_goals
      go_ret
      refine ⟨?_, HB.out.alloc _⟩
      rw [HI.out]
      show Ending.returned (.bool _) = Ending.returned (.bool _)
      congr 2
      rw [Bool.eq_iff_iff]
      simp
      omega

theorem tagV_12 : tagV (1, 2) = .agg #[.int .u64 1, .int .u64 2] := rfl
theorem abc_make : (secMake [97, 98, 99] (1, 2)).length = 128 := secMake_length _ _ (by decide)
theorem abc_is : isB (secMake [97, 98, 99] (1, 2)) (1, 2) = true := by
  unfold isB
  rw [read_make _ _ (by decide) (by decide) (by decide)]
  rfl
theorem abc_sum : sumN [97, 98, 99] = 38600999 := by decide
set_option maxHeartbeats 400000 in
set_option maxRecDepth 100000 in
theorem awake_any (w : World) : Calls Tryd.prog 9 #[] w fun e w' => e = .returned (.bool true) ∧ Below w.heap.size w w' := by
  have M1 : Hid (∀ w, Calls Tryd.prog 18 #[.string ⟨#[97, 98, 99]⟩, .agg #[.int .u64 1, .int .u64 2]] w fun e w' => e = .returned (.tuple #[.string (strOf (secMake [97, 98, 99] (1, 2))), .int .i64 0]) ∧ Below w.heap.size w w') := Lib.hid fun w => make_any [97, 98, 99] (by decide) (1, 2) w
  have S1 : Hid (∀ w, Calls Tryd.prog 19 #[.string ⟨#[97, 98, 99]⟩] w fun e w' => e = .returned (.int .u32 38600999) ∧ Below w.heap.size w w') := Lib.hid fun w => by
    have := sum_any [97, 98, 99] (by decide) w
    rw [abc_sum] at this
    exact this
  have I1 : Hid (∀ w, Calls Tryd.prog 16 #[.string (strOf (secMake [97, 98, 99] (1, 2))), .agg #[.int .u64 1, .int .u64 2]] w fun e w' => e = .returned (.bool true) ∧ Below w.heap.size w w') := Lib.hid fun w => by
    have := is_any (secMake [97, 98, 99] (1, 2)) (1, 2) w
    rw [abc_is] at this
    exact this
  have hsz : (strOf (secMake [97, 98, 99] (1, 2))).size = 128 := abc_make
  generalize strOf (secMake [97, 98, 99] (1, 2)) = ss at *
  go_enter Tryd.func9, Tryd.ntmps9
  go_wp2_with fail
  (with_reducible refine (M1.out _).mono ?_)
  rintro e w1 ⟨rfl, hb1⟩
  go_wp2_with fail
  (with_reducible refine (S1.out _).mono ?_)
  rintro e w2 ⟨rfl, hb2⟩
  go_wp2_with fail
  (with_reducible refine (I1.out _).mono ?_)
  rintro e w3 ⟨rfl, hb3⟩
  go_wp2_with fail
  go_ret
  exact ⟨rfl, ((Bel.step hb1 hb2).step hb3)⟩
end Go.Proofs.YtmcnoekpblkpdaaDoor
