/- SectorMakes: whatever piece and tags come in, sectors are made, and sums and tags told, as the document says: the law returns true, and leaves its arguments as they were. No condition beside the row's own. -/
import Derived.Test.YtmcnoekpblkpdaaDoorSecEnds
import Derived.Test.YtmcnoekpblkpdaaDoorSect10
namespace Go.Proofs.YtmcnoekpblkpdaaDoor
open Go.ChangeShapes Go.WideShapes Go.ChangeAt Go.RowKit Go.ChangeMaps

set_option maxHeartbeats 1000000 in
set_option maxRecDepth 100000 in
theorem makes_walk (p0 : List UInt8) (hp0 : p0.length ≤ 9223372036854775807) (a1 a2 b1 b2 : Nat) (ha1 : a1 < 18446744073709551616) (ha2 : a2 < 18446744073709551616) (w : World) :
    Calls Tryd.prog 7 #[.string (strOf p0), .agg #[.int .u64 (a1 : Int), .int .u64 (a2 : Int)], .agg #[.int .u64 (b1 : Int), .int .u64 (b2 : Int)]] w fun e w' => e = .returned (.bool true) ∧ Below w.heap.size w w' := by
  have HA := Lib.hid fun w => awake_any w
  have SH : Hid (∀ w, Calls Tryd.prog 10 #[.string (strOf p0), .int .i64 120] w fun e w' => e = .returned (.string (strOf (p0.take 120))) ∧ w = w') := Lib.hid fun w => short_any p0 120 w hp0
  have hp : (p0.take 120).length ≤ 120 := List.length_take_le _ _
  generalize p0.take 120 = p at *
  have hM : ∃ (m : ByteArray) (er : Int), (∀ w, Calls Tryd.prog 18 #[.string (strOf p), .agg #[.int .u64 (a1 : Int), .int .u64 (a2 : Int)]] w fun e w' => e = .returned (.tuple #[.string m, .int .i64 er]) ∧ Below w.heap.size w w') ∧ (∀ w, Calls Tryd.prog 11 #[.string (strOf p), .agg #[.int .u64 (a1 : Int), .int .u64 (a2 : Int)]] w fun e w' => e = .returned (.tuple #[.string m, .int .i64 er]) ∧ Below w.heap.size w w') := by
    by_cases h : p.length ≤ 107
    · exact ⟨strOf (secMake p (a1, a2)), 0, fun w => make_any p h (a1, a2) w, fun w => rmake_any p h (a1, a2) ha1 ha2 w⟩
    · exact ⟨⟨#[]⟩, 1, fun w => make_bad p (by omega) (by omega) (a1, a2) w, fun w => rmake_bad p (by omega) (by omega) (a1, a2) w⟩
  obtain ⟨m, er, hM1, hM2⟩ := hM
  have M1 := Lib.hid hM1
  have M2 := Lib.hid hM2
  clear hM1 hM2
  have S1 := Lib.hid fun w => sum_any p (by omega) w
  have S2 := Lib.hid fun w => rsum_any p (by omega) w
  have B1 : Hid (∀ w, Calls Tryd.prog 21 #[.agg #[.int .u64 (a1 : Int), .int .u64 (a2 : Int)], .agg #[.int .u64 (b1 : Int), .int .u64 (b2 : Int)]] w fun e w' => e = .returned (.bool (beforeT (a1, a2) (b1, b2))) ∧ Below w.heap.size w w') := Lib.hid fun w => before_any (a1, a2) (b1, b2) w
  have B2 : Hid (∀ w, Calls Tryd.prog 22 #[.agg #[.int .u64 (a1 : Int), .int .u64 (a2 : Int)], .agg #[.int .u64 (b1 : Int), .int .u64 (b2 : Int)]] w fun e w' => e = .returned (.bool (beforeT (a1, a2) (b1, b2))) ∧ Below w.heap.size w w') := Lib.hid fun w => rbefore_any (a1, a2) (b1, b2) w
  generalize beforeT (a1, a2) (b1, b2) = bt at *
  generalize sumN p = sm at *
  clear hp hp0 ha1 ha2
  generalize strOf p = sp at *
  generalize strOf p0 = sp0 at *
  go_enter Tryd.func7, Tryd.ntmps7
  go_wp2_with fail
  (with_reducible refine (HA.out _).mono ?_)
  rintro e w1 ⟨rfl, hb⟩
  have hN := ((Blk.new w 24 #[.int .u64 (a1 : Int), .int .u64 (a2 : Int)]).alloc (.cells #[.int .u64 (b1 : Int), .int .u64 (b2 : Int)] 24)).bel hb
  have hM := (Blk.new (w.alloc (.cells #[.int .u64 (a1 : Int), .int .u64 (a2 : Int)] 24)) 24 #[.int .u64 (b1 : Int), .int .u64 (b2 : Int)]).bel hb
  rw [World.size_alloc] at hM
  have HB := Lib.hid ((((Bel.refl w).alloc (.cells #[.int .u64 (a1 : Int), .int .u64 (a2 : Int)] 24)).alloc (.cells #[.int .u64 (b1 : Int), .int .u64 (b2 : Int)] 24)).step hb)
  obtain ⟨c0, c1⟩ := hN.two
  have HN := Lib.hid hN
  have HM := Lib.hid hM
  clear hN hM hb
  go_wp2_with fail
  (with_reducible refine (SH.out _).mono ?_)
  rintro e w2 ⟨rfl, rfl⟩
  go_wp2_with fail
  (with_reducible refine (M1.out _).mono ?_)
  rintro e w2 ⟨rfl, hb⟩
  have HN2 := Lib.hid (HN.out.bel hb)
  have HM2 := Lib.hid (HM.out.bel hb)
  have HB2 := Lib.hid (HB.out.step hb)
  clear c0 c1 HN HM HB hb
  obtain ⟨c0, c1⟩ := HN2.out.two
  go_wp2_with fail
  (with_reducible refine (M2.out _).mono ?_)
  rintro e w3 ⟨rfl, hb⟩
  have HN3 := Lib.hid (HN2.out.bel hb)
  have HM3 := Lib.hid (HM2.out.bel hb)
  have HB3 := Lib.hid (HB2.out.step hb)
  clear c0 c1 HN2 HM2 HB2 hb
  go_upto_region 5 with fail
  have hS : Bel w w3.drew ∧ (w3.drew.cell? ⟨w.heap.size, 0, none⟩ = some (.int .u64 (a1 : Int)) ∧ w3.drew.cell? ⟨w.heap.size, 1, none⟩ = some (.int .u64 (a2 : Int))) ∧ (w3.drew.cell? ⟨w.heap.size + 1, 0, none⟩ = some (.int .u64 (b1 : Int)) ∧ w3.drew.cell? ⟨w.heap.size + 1, 1, none⟩ = some (.int .u64 (b2 : Int))) := ⟨HB3.out.drew, HN3.out.drew.two, HM3.out.drew.two⟩
  have HS := Lib.hid fun (w' w'' : World) (h : Bel w w' ∧ (w'.cell? ⟨w.heap.size, 0, none⟩ = some (.int .u64 (a1 : Int)) ∧ w'.cell? ⟨w.heap.size, 1, none⟩ = some (.int .u64 (a2 : Int))) ∧ (w'.cell? ⟨w.heap.size + 1, 0, none⟩ = some (.int .u64 (b1 : Int)) ∧ w'.cell? ⟨w.heap.size + 1, 1, none⟩ = some (.int .u64 (b2 : Int)))) (hb : Below w'.heap.size w' w'') => (show Bel w w'' ∧ (w''.cell? ⟨w.heap.size, 0, none⟩ = some (.int .u64 (a1 : Int)) ∧ w''.cell? ⟨w.heap.size, 1, none⟩ = some (.int .u64 (a2 : Int))) ∧ (w''.cell? ⟨w.heap.size + 1, 0, none⟩ = some (.int .u64 (b1 : Int)) ∧ w''.cell? ⟨w.heap.size + 1, 1, none⟩ = some (.int .u64 (b2 : Int))) from by
    obtain ⟨h1, ⟨h2, h3⟩, h4, h5⟩ := h
    have l1 : w.heap.size < w'.heap.size := block_lt_of_cell h2
    have l2 : w.heap.size + 1 < w'.heap.size := block_lt_of_cell h4
    exact ⟨h1.step hb, ⟨Bel.cells (w0 := w') hb h2 l1, Bel.cells (w0 := w') hb h3 l1⟩, ⟨Bel.cells (w0 := w') hb h4 l2, Bel.cells (w0 := w') hb h5 l2⟩⟩)
  clear HN3 HM3 HB3
  refine wp_region_ord [(0, false, true), (1, false, true), (2, false, true), (3, false, true), (4, false, true), (5, false, true), (6, false, true), (7, false, true), (8, false, true), (9, false, true), (10, false, true), (11, false, true), (12, false, true), (14, false, true), (13, true, true), (15, true, true), (16, false, true), (17, false, true), (18, false, true), (19, false, true), (20, false, true), (22, false, true), (23, false, true), (21, true, true), (24, true, true), (25, false, true), (26, false, true), (27, false, true)]
    (fun w' => Bel w w' ∧ (w'.cell? ⟨w.heap.size, 0, none⟩ = some (.int .u64 (a1 : Int)) ∧ w'.cell? ⟨w.heap.size, 1, none⟩ = some (.int .u64 (a2 : Int))) ∧ (w'.cell? ⟨w.heap.size + 1, 0, none⟩ = some (.int .u64 (b1 : Int)) ∧ w'.cell? ⟨w.heap.size + 1, 1, none⟩ = some (.int .u64 (b2 : Int)))) (by kernel_rfl) (by kernel_rfl) (by decide) (by kernel_rfl) ?_
  repeat (first
    | (refine O_take _ _ rfl (by rfl) (fun _ _ _ h => h) (by assumption) (fun w hSw => by (simp only [List.getElem_toArray, List.getElem_cons_zero, List.getElem_cons_succ]; go_simp; first | done | with_reducible rfl)) ?_; simp only [Act.put, List.getElem_toArray, List.getElem_cons_zero, List.getElem_cons_succ, List.setIfInBounds_toArray, List.set_cons_zero, List.set_cons_succ])
    | (refine O_pass _ rfl (by rfl) (fun _ _ _ h => h) (by assumption) ?_; simp only [Act.put, List.getElem_toArray, List.getElem_cons_zero, List.getElem_cons_succ, List.setIfInBounds_toArray, List.set_cons_zero, List.set_cons_succ])
    | (refine O_idle _ rfl (by rfl) (by assumption) ?_; simp only [Act.put, List.getElem_toArray, List.getElem_cons_zero, List.getElem_cons_succ, List.setIfInBounds_toArray, List.set_cons_zero, List.set_cons_succ]))
  refine O_act _ rfl (by rfl) (fun K' hK => ?_)
  simp only [List.getElem_toArray, List.getElem_cons_zero, List.getElem_cons_succ]
  go_simp
  (with_reducible refine (S1.out _).mono ?_)
  rintro e w6 ⟨rfl, hb⟩
  have hS := HS.out _ _ hS hb
  refine hK _ _ hS ?_
  clear hK K' hb
  repeat (first
    | (refine O_take _ _ rfl (by rfl) (fun _ _ _ h => h) (by assumption) (fun w hSw => by (simp only [List.getElem_toArray, List.getElem_cons_zero, List.getElem_cons_succ]; go_simp; first | done | with_reducible rfl)) ?_; simp only [Act.put, List.getElem_toArray, List.getElem_cons_zero, List.getElem_cons_succ, List.setIfInBounds_toArray, List.set_cons_zero, List.set_cons_succ])
    | (refine O_pass _ rfl (by rfl) (fun _ _ _ h => h) (by assumption) ?_; simp only [Act.put, List.getElem_toArray, List.getElem_cons_zero, List.getElem_cons_succ, List.setIfInBounds_toArray, List.set_cons_zero, List.set_cons_succ])
    | (refine O_idle _ rfl (by rfl) (by assumption) ?_; simp only [Act.put, List.getElem_toArray, List.getElem_cons_zero, List.getElem_cons_succ, List.setIfInBounds_toArray, List.set_cons_zero, List.set_cons_succ]))
  refine O_act _ rfl (by rfl) (fun K' hK => ?_)
  simp only [List.getElem_toArray, List.getElem_cons_zero, List.getElem_cons_succ]
  go_simp
  (with_reducible refine (S2.out _).mono ?_)
  rintro e w6 ⟨rfl, rfl⟩
  refine hK _ _ hS ?_
  clear hK K'
  repeat (first
    | (refine O_take _ _ rfl (by rfl) (fun _ _ _ h => h) (by assumption) (fun w hSw => by (simp only [List.getElem_toArray, List.getElem_cons_zero, List.getElem_cons_succ]; go_simp; first | done | with_reducible rfl)) ?_; simp only [Act.put, List.getElem_toArray, List.getElem_cons_zero, List.getElem_cons_succ, List.setIfInBounds_toArray, List.set_cons_zero, List.set_cons_succ])
    | (refine O_pass _ rfl (by rfl) (fun _ _ _ h => h) (by assumption) ?_; simp only [Act.put, List.getElem_toArray, List.getElem_cons_zero, List.getElem_cons_succ, List.setIfInBounds_toArray, List.set_cons_zero, List.set_cons_succ])
    | (refine O_idle _ rfl (by rfl) (by assumption) ?_; simp only [Act.put, List.getElem_toArray, List.getElem_cons_zero, List.getElem_cons_succ, List.setIfInBounds_toArray, List.set_cons_zero, List.set_cons_succ]))
  refine O_act _ rfl (by rfl) (fun K' hK => ?_)
  simp only [List.getElem_toArray, List.getElem_cons_zero, List.getElem_cons_succ]
  go_simp
  (with_reducible refine (B1.out _).mono ?_)
  rintro e w6 ⟨rfl, hb⟩
  have hS := HS.out _ _ hS hb
  refine hK _ _ hS ?_
  clear hK K' hb
  repeat (first
    | (refine O_take _ _ rfl (by rfl) (fun _ _ _ h => h) (by assumption) (fun w hSw => by (simp only [List.getElem_toArray, List.getElem_cons_zero, List.getElem_cons_succ]; go_simp; first | done | with_reducible rfl)) ?_; simp only [Act.put, List.getElem_toArray, List.getElem_cons_zero, List.getElem_cons_succ, List.setIfInBounds_toArray, List.set_cons_zero, List.set_cons_succ])
    | (refine O_pass _ rfl (by rfl) (fun _ _ _ h => h) (by assumption) ?_; simp only [Act.put, List.getElem_toArray, List.getElem_cons_zero, List.getElem_cons_succ, List.setIfInBounds_toArray, List.set_cons_zero, List.set_cons_succ])
    | (refine O_idle _ rfl (by rfl) (by assumption) ?_; simp only [Act.put, List.getElem_toArray, List.getElem_cons_zero, List.getElem_cons_succ, List.setIfInBounds_toArray, List.set_cons_zero, List.set_cons_succ]))
  refine O_act _ rfl (by rfl) (fun K' hK => ?_)
  simp only [List.getElem_toArray, List.getElem_cons_zero, List.getElem_cons_succ]
  go_simp
  (with_reducible refine (B2.out _).mono ?_)
  rintro e w6 ⟨rfl, hb⟩
  have hS := HS.out _ _ hS hb
  refine hK _ _ hS ?_
  clear hK K' hb
  repeat (first
    | (refine O_take _ _ rfl (by rfl) (fun _ _ _ h => h) (by assumption) (fun w hSw => by (simp only [List.getElem_toArray, List.getElem_cons_zero, List.getElem_cons_succ]; go_simp; first | done | with_reducible rfl)) ?_; simp only [Act.put, List.getElem_toArray, List.getElem_cons_zero, List.getElem_cons_succ, List.setIfInBounds_toArray, List.set_cons_zero, List.set_cons_succ])
    | (refine O_pass _ rfl (by rfl) (fun _ _ _ h => h) (by assumption) ?_; simp only [Act.put, List.getElem_toArray, List.getElem_cons_zero, List.getElem_cons_succ, List.setIfInBounds_toArray, List.set_cons_zero, List.set_cons_succ])
    | (refine O_idle _ rfl (by rfl) (by assumption) ?_; simp only [Act.put, List.getElem_toArray, List.getElem_cons_zero, List.getElem_cons_succ, List.setIfInBounds_toArray, List.set_cons_zero, List.set_cons_succ]))
  refine O_nil ?_
  have HB5 := Lib.hid hS.1
  clear hS HS
  (try simp only [NoPanic])
  go_wp2_with fail
  go_ret
  exact ⟨rfl, HB5.out⟩

namespace SectorMakes
theorem params : ∀ t ∈ Tryd.f7.params.toList, Tryd.prog.readableRec t = true ∧ t < Tryd.prog.types.size := by
  have h : (Tryd.f7.params.toList.all fun t => Tryd.prog.readableRec t && decide (t < Tryd.prog.types.size)) = true := by kernel_rfl
  intro t ht
  have := List.all_eq_true.1 h t ht
  simpa using this
set_option maxRecDepth 100000 in
theorem lifted (os : Os) (started : os.Started) (H : Type) (enc : TypeId × Value → H) :
    ReturnsInHanded {} Tryd.checked os 7 .any (fun w args => (Rows.sectorMakesSpec.pre enc Tryd.prog Tryd.f7 [] false w args ∧ laidMetH Tryd.prog laidS w) ∧ sizedMet enc Tryd.prog Tryd.f7 (OpenSpec.ofChange Rows.sectorMakesSpec) false w args) (Rows.sectorMakesSpec.post enc Tryd.prog Tryd.f7 false true false false) := by
  refine returnsInHanded_of_change_and (C := Tryd.checked) (X := fun w _ => laidMetH Tryd.prog laidS w) (fun _ _ _ hh h => h.of_heap hh) Tryd.own started (by kernel_rfl) Tryd.func7
    (ChangeSpec.witness_shaped (enc := enc) (C := Tryd.checked) (os := os) (X := fun w _ => laidMetH Tryd.prog laidS w) false (World.laidAll Tryd.prog os laidS) #[.string ⟨#[]⟩, .agg #[.int .u64 0, .int .u64 0], .agg #[.int .u64 0, .int .u64 0]] 8 (World.laidAll_os _ _ _)
      (World.shaped_of_ZipB (by kernel_rfl) (by kernel_rfl)) (by kernel_rfl) (by kernel_rfl) (by kernel_rfl) (laid_met os _)) ?_
  intro W base args ds gs before hval0 hW _ _ _ _
  have hval : ∀ (j : Nat) t v, Tryd.f7.params[j]? = some t → args[j]? = some v → Value.okWide Tryd.prog W .any base t v := hval0
  have hW' := hW
  obtain ⟨p, q, hA0, hV, rfl, hfz, hnd⟩ := hW
  have hA : DataW.TrodAll enc Tryd.prog W 0 (fun _ => true) true Tryd.f7.params.toList args.toList ds p := hA0
  rw [Tryd.params7] at hA hval
  obtain ⟨v0, v1, v2, d0, d1, d2, p0, p1, p2, rfl, rfl, rfl, h0, h1, h2⟩ := trodAll_three hA
  obtain ⟨rfl, rfl⟩ := trodVars_none hV
  obtain ⟨s0, rfl, _, _, hs0⟩ := open_string Tryd.underlying9 (hval 0 9 v0 rfl rfl) h0
  obtain ⟨a1, a2, rfl, ha1, ha2⟩ := open_tag (hval 1 24 v1 rfl rfl) h1
  obtain ⟨b1, b2, rfl, _, _⟩ := open_tag (hval 2 24 v2 rfl rfl) h2
  have hsL : s0.data.toList.length ≤ 9223372036854775807 := by unfold maxLen at hs0; exact hs0
  obtain ⟨l0, rfl⟩ : ∃ l, s0 = strOf l := ⟨s0.data.toList, by unfold strOf; simp⟩
  refine (makes_walk l0 (by simpa [strOf] using hsL) a1 a2 b1 b2 ha1 ha2 W).mono fun e W' ⟨he, hb⟩ => ?_
  subst he
  exact ⟨_, rfl, law_end Tryd.laidOut params rfl Tryd.underlying4 rfl hW' rfl rfl rfl hb⟩
theorem holds : Rows.SectorMakesSaid :=
  OpenClaim.holds_of_wide 7 Tryd.f7 rfl rfl rfl rfl rfl rfl rfl ⟨rfl, rfl, rfl, rfl, rfl⟩ rfl rfl rfl rfl rfl (by kernel_rfl) Tryd.func7 (by kernel_rfl)
    (of_decide_eq_true (by kernel_rfl)) (by unfold Func.isWrapper; first | (rw [if_pos (by decide +kernel)]; kernel_rfl) | (rw [if_neg (by decide +kernel)]; exact ⟨rfl, rfl⟩))
    (fun os started H enc _ => lifted os started H enc)
theorem card_holds : Rows.SectorMakesCardSaid :=
  Claim7.holds_tied_plain_at .later [] [.data, .pinned] true Rows.sectorMakesCard.stood.harness false holds (fun _ h => by cases h) (by kernel_rfl) (fun _ h => by cases h) sectorMakes_row_tie rfl ⟨rfl, rfl⟩ (by kernel_rfl) rfl
    (fun f fn hf hfn => by
      obtain rfl : f = 7 := Option.some.inj ((show Tryd.prog.funcNamed "vendue/venduelaw03.SectorMakes" = some 7 by kernel_rfl).symm.trans hf) |>.symm
      obtain rfl : fn = Tryd.f7 := (Option.some.inj (Tryd.func7.symm.trans hfn)).symm
      exact ⟨by kernel_rfl, fun j t ht => by
        have hm : t ∈ Tryd.f7.params := Array.mem_of_getElem? ht
        have hall : (Tryd.f7.params.toList.all fun u => !Tryd.prog.wantsStandIn u) = true := by kernel_rfl
        exact (show Tryd.prog.wantsStandIn t = false by simpa using List.all_eq_true.1 hall t (by simpa using hm))⟩)
    (by kernel_rfl)
end SectorMakes
end Go.Proofs.YtmcnoekpblkpdaaDoor
