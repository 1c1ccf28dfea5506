/- SectorOrder: whatever two tags come in, of two tags one is ahead, or they are the same, and a later epoch is behind: the law returns true, and leaves its arguments as they were. No condition beside the row's own. -/
import Derived.Test.YtmcnoekpblkpdaaDoorSect8
import Derived.Test.YtmcnoekpblkpdaaDoorSecCard
namespace Go.Proofs.YtmcnoekpblkpdaaDoor
open Go.ChangeShapes Go.WideShapes Go.ChangeAt Go.RowKit

theorem before_lt {a1 a2 b1 b2 : Nat} (h : a1 < b1 ∨ a1 = b1 ∧ a2 < b2) : beforeT (a1, a2) (b1, b2) = true := by simp [beforeT]; omega
theorem before_ge {a1 a2 b1 b2 : Nat} (h : ¬ (a1 < b1 ∨ a1 = b1 ∧ a2 < b2)) : beforeT (a1, a2) (b1, b2) = false := by
  simp [beforeT]; omega
set_option maxHeartbeats 400000 in
set_option maxRecDepth 100000 in
theorem order_walk (a1 a2 b1 b2 : Nat) (w : World) : Calls Tryd.prog 8 #[.agg #[.int .u64 (a1 : Int), .int .u64 (a2 : Int)], .agg #[.int .u64 (b1 : Int), .int .u64 (b2 : Int)]] w fun e w' => e = .returned (.bool true) ∧ Below w.heap.size w w' := by
  have HA := Lib.hid fun w => awake_any w
  have HXY : Hid (∀ w, Calls Tryd.prog 21 #[.agg #[.int .u64 (a1 : Int), .int .u64 (a2 : Int)], .agg #[.int .u64 (b1 : Int), .int .u64 (b2 : Int)]] w fun e w' => e = .returned (.bool (beforeT (a1, a2) (b1, b2))) ∧ Below w.heap.size w w') := Lib.hid fun w => before_any (a1, a2) (b1, b2) w
  have HYX : Hid (∀ w, Calls Tryd.prog 21 #[.agg #[.int .u64 (b1 : Int), .int .u64 (b2 : Int)], .agg #[.int .u64 (a1 : Int), .int .u64 (a2 : Int)]] w fun e w' => e = .returned (.bool (beforeT (b1, b2) (a1, a2))) ∧ Below w.heap.size w w') := Lib.hid fun w => before_any (b1, b2) (a1, a2) w
  have HXX : Hid (∀ w, Calls Tryd.prog 21 #[.agg #[.int .u64 (a1 : Int), .int .u64 (a2 : Int)], .agg #[.int .u64 (a1 : Int), .int .u64 (a2 : Int)]] w fun e w' => e = .returned (.bool false) ∧ Below w.heap.size w w') := Lib.hid fun w => by
    have := before_any (a1, a2) (a1, a2) w
    rwa [before_ge (by omega)] at this
  go_enter Tryd.func8, Tryd.ntmps8
  go_wp2_with fail
  (with_reducible refine (HA.out _).mono ?_)
  rintro e w1 ⟨rfl, hb⟩
  have hN0 := ((Blk.new w 24 #[.int .u64 (a1 : Int), .int .u64 (a2 : Int)]).alloc (.cells #[.int .u64 (b1 : Int), .int .u64 (b2 : Int)] 24)).bel hb
  have hM0 := (Blk.new (w.alloc (.cells #[.int .u64 (a1 : Int), .int .u64 (a2 : Int)] 24)) 24 #[.int .u64 (b1 : Int), .int .u64 (b2 : Int)]).bel hb
  rw [World.size_alloc] at hM0
  have HB1 := Lib.hid ((((Bel.refl w).alloc (.cells #[.int .u64 (a1 : Int), .int .u64 (a2 : Int)] 24)).alloc (.cells #[.int .u64 (b1 : Int), .int .u64 (b2 : Int)] 24)).step hb)
  have c0 := hN0.cell 0
  have c1 := hN0.cell 1
  have d0 := hM0.cell 0
  have d1 := hM0.cell 1
  change _ = some (Value.int .u64 (a1 : Int)) at c0
  change _ = some (Value.int .u64 (a2 : Int)) at c1
  change _ = some (Value.int .u64 (b1 : Int)) at d0
  change _ = some (Value.int .u64 (b2 : Int)) at d1
  have HN0 := Lib.hid hN0
  have HM0 := Lib.hid hM0
  clear hN0 hM0 hb
  go_wp2_with fail
  (with_reducible refine (HXY.out _).mono ?_)
  rintro e w2 ⟨rfl, hb⟩
  have hN0 := HN0.out.bel hb
  have hM0 := HM0.out.bel hb
  have HB2 := Lib.hid (HB1.out.step hb)
  clear c0 c1 d0 d1 HN0 HM0 HB1 hb
  have c0 := hN0.cell 0
  have c1 := hN0.cell 1
  have d0 := hM0.cell 0
  have d1 := hM0.cell 1
  change _ = some (Value.int .u64 (a1 : Int)) at c0
  change _ = some (Value.int .u64 (a2 : Int)) at c1
  change _ = some (Value.int .u64 (b1 : Int)) at d0
  change _ = some (Value.int .u64 (b2 : Int)) at d1
  have HN0 := Lib.hid hN0
  have HM0 := Lib.hid hM0
  clear hN0 hM0
  go_wp2_with fail
  (with_reducible refine (HYX.out _).mono ?_)
  rintro e w3 ⟨rfl, hb⟩
  have hN0 := HN0.out.bel hb
  have hM0 := HM0.out.bel hb
  have HB3 := Lib.hid (HB2.out.step hb)
  clear c0 c1 d0 d1 HN0 HM0 HB2 hb
  have c0 := hN0.cell 0
  have c1 := hN0.cell 1
  have d0 := hM0.cell 0
  have d1 := hM0.cell 1
  change _ = some (Value.int .u64 (a1 : Int)) at c0
  change _ = some (Value.int .u64 (a2 : Int)) at c1
  change _ = some (Value.int .u64 (b1 : Int)) at d0
  change _ = some (Value.int .u64 (b2 : Int)) at d1
  clear hN0 hM0
  have hcase : a1 < b1 ∨ (a1 = b1 ∧ a2 < b2) ∨ (a1 = b1 ∧ a2 = b2) ∨ (a1 = b1 ∧ b2 < a2) ∨ b1 < a1 := by omega
  rcases hcase with h | ⟨rfl, h⟩ | ⟨rfl, rfl⟩ | ⟨rfl, h⟩ | h
  · rw [before_lt (.inl h), before_ge (by omega)]
    go_wp2_with fail
    (with_reducible refine (HXX.out _).mono ?_)
    rintro e w4 ⟨rfl, hb⟩
    go_wp2_with fail
    go_ret
    exact ⟨rfl, HB3.out.step hb⟩
  · rw [before_lt (.inr ⟨rfl, h⟩), before_ge (by omega)]
    go_wp2_with fail
    (with_reducible refine (HXX.out _).mono ?_)
    rintro e w4 ⟨rfl, hb⟩
    go_wp2_with fail
    go_ret
    exact ⟨rfl, HB3.out.step hb⟩
  · rw [before_ge (by omega)]
    go_wp2_with fail
    (with_reducible refine (HXX.out _).mono ?_)
    rintro e w4 ⟨rfl, hb⟩
    go_wp2_with fail
    go_ret
    exact ⟨rfl, HB3.out.step hb⟩
  · rw [before_lt (.inr ⟨rfl, h⟩), before_ge (by omega)]
    go_wp2_with fail
    (with_reducible refine (HXX.out _).mono ?_)
    rintro e w4 ⟨rfl, hb⟩
    go_wp2_with fail
    go_ret
    exact ⟨rfl, HB3.out.step hb⟩
  · rw [before_lt (.inl h), before_ge (by omega)]
    go_wp2_with fail
    (with_reducible refine (HXX.out _).mono ?_)
    rintro e w4 ⟨rfl, hb⟩
    go_wp2_with fail
    go_ret
    exact ⟨rfl, HB3.out.step hb⟩

namespace SectorOrder
theorem params : ∀ t ∈ Tryd.f8.params.toList, Tryd.prog.readableRec t = true ∧ t < Tryd.prog.types.size := by
  have h : (Tryd.f8.params.toList.all fun t => Tryd.prog.readableRec t && decide (t < Tryd.prog.types.size)) = true := by kernel_rfl
  intro t ht
  have := List.all_eq_true.1 h t ht
  simpa using this
set_option maxRecDepth 100000 in
theorem lifted (os : Os) (started : os.Started) (H : Type) (enc : TypeId × Value → H) :
    ReturnsInHanded {} Tryd.checked os 8 .any (fun w args => (Rows.sectorOrderSpec.pre enc Tryd.prog Tryd.f8 [] false w args ∧ laidMetH Tryd.prog laidS w) ∧ sizedMet enc Tryd.prog Tryd.f8 (OpenSpec.ofChange Rows.sectorOrderSpec) false w args) (Rows.sectorOrderSpec.post enc Tryd.prog Tryd.f8 false true false false) := by
  refine returnsInHanded_of_change_and (C := Tryd.checked) (X := fun w _ => laidMetH Tryd.prog laidS w) (fun _ _ _ hh h => h.of_heap hh) Tryd.own started (by kernel_rfl) Tryd.func8
    (ChangeSpec.witness_shaped (enc := enc) (C := Tryd.checked) (os := os) (X := fun w _ => laidMetH Tryd.prog laidS w) false (World.laidAll Tryd.prog os laidS) #[.agg #[.int .u64 0, .int .u64 0], .agg #[.int .u64 0, .int .u64 0]] 8 (World.laidAll_os _ _ _)
      (World.shaped_of_ZipB (by kernel_rfl) (by kernel_rfl)) (by kernel_rfl) (by kernel_rfl) (by kernel_rfl) (laid_met os _)) ?_
  intro W base args ds gs before hval0 hW _ _ _ _
  have hval : ∀ (j : Nat) t v, Tryd.f8.params[j]? = some t → args[j]? = some v → Value.okWide Tryd.prog W .any base t v := hval0
  have hW' := hW
  obtain ⟨p, q, hA0, hV, rfl, hfz, hnd⟩ := hW
  have hA : DataW.TrodAll enc Tryd.prog W 0 (fun _ => true) true Tryd.f8.params.toList args.toList ds p := hA0
  rw [Tryd.params8] at hA hval
  obtain ⟨v0, v1, d0, d1, p0, p1, rfl, rfl, rfl, h0, h1⟩ := trodAll_two hA
  obtain ⟨rfl, rfl⟩ := trodVars_none hV
  obtain ⟨a1, a2, rfl, ha1, ha2⟩ := open_tag (hval 0 24 v0 rfl rfl) h0
  obtain ⟨b1, b2, rfl, hb1, hb2⟩ := open_tag (hval 1 24 v1 rfl rfl) h1
  refine (order_walk a1 a2 b1 b2 W).mono fun e W' ⟨he, hb⟩ => ?_
  subst he
  exact ⟨_, rfl, law_end Tryd.laidOut params rfl Tryd.underlying4 rfl hW' rfl rfl rfl hb⟩
theorem holds : Rows.SectorOrderSaid :=
  OpenClaim.holds_of_wide 8 Tryd.f8 rfl rfl rfl rfl rfl rfl rfl ⟨rfl, rfl, rfl, rfl, rfl⟩ rfl rfl rfl rfl rfl (by kernel_rfl) Tryd.func8 (by kernel_rfl)
    (of_decide_eq_true (by kernel_rfl)) (by unfold Func.isWrapper; first | (rw [if_pos (by decide +kernel)]; kernel_rfl) | (rw [if_neg (by decide +kernel)]; exact ⟨rfl, rfl⟩))
    (fun os started H enc _ => lifted os started H enc)
theorem card_holds : Rows.SectorOrderCardSaid :=
  Claim7.holds_tied_plain_at .later [] [.data, .pinned] true Rows.sectorOrderCard.stood.harness false holds (fun _ h => by cases h) (by kernel_rfl) (fun _ h => by cases h) sectorOrder_row_tie rfl ⟨rfl, rfl⟩ (by kernel_rfl) rfl
    (fun f fn hf hfn => by
      obtain rfl : f = 8 := Option.some.inj ((show Tryd.prog.funcNamed "vendue/venduelaw03.SectorOrder" = some 8 by kernel_rfl).symm.trans hf) |>.symm
      obtain rfl : fn = Tryd.f8 := (Option.some.inj (Tryd.func8.symm.trans hfn)).symm
      exact ⟨by kernel_rfl, fun j t ht => by
        have hm : t ∈ Tryd.f8.params := Array.mem_of_getElem? ht
        have hall : (Tryd.f8.params.toList.all fun u => !Tryd.prog.wantsStandIn u) = true := by kernel_rfl
        exact (show Tryd.prog.wantsStandIn t = false by simpa using List.all_eq_true.1 hall t (by simpa using hm))⟩)
    (by kernel_rfl)
end SectorOrder
end Go.Proofs.YtmcnoekpblkpdaaDoor
