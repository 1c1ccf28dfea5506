/- DiskStays, walk A (ahead.length ≤ 12, behind.length ≤ 12): whatever is written ahead of a sync and behind it, and whatever fates a crash brings: the law returns true, and leaves its arguments as they were. No condition beside the row's own. -/
import Derived.Test.YtmhmfcphjfgppaaDiskStays
namespace Go.Proofs.Ytmhmfcphjfgppaa
open Go.RowKit Go.ChangeShapes Go.WideShapes

set_option maxRecDepth 100000 in
set_option maxHeartbeats 8000000 in
theorem diskStays_walkA (v0 v1 v2 : Value) (ahead behind : List Int) (fs : List (Int × Int)) (W : World) (h0 : IntsAt W v0 ahead) (h1 : IntsAt W v1 behind) (h2 : FatesAt W v2 fs) (l0 : ahead.length ≤ 12) (l1 : behind.length ≤ 12) :
    Calls Try.prog 6 #[v0, v1, v2] W fun e w' => e = .returned (.bool true) ∧ Below W.heap.size W w' := by
  obtain ⟨A0, c0, rfl, hm0, hp⟩ := h0
  obtain ⟨A1, c1, rfl, hm1, hs⟩ := h1
  have HP := Lib.hid hp
  have HS := Lib.hid hs
  have HF := Lib.hid h2
  have haw := awake_any W
  have HAW := Lib.hid haw
  clear hp hs haw h2
  go_enter Try.func6, Try.ntmps6
  go_wp2_with fail
  refine (HAW.out).mono ?_
  rintro e w1 ⟨rfl, hb1⟩
  have HB1 := Lib.hid hb1
  clear hb1 HAW
  go_wp2_with fail
  refine (new_go 4 w1 (by decide) (by decide)).mono ?_
  rintro e w2 ⟨rfl, hD2, _⟩
  have HD2 := Lib.hid hD2
  clear hD2
  go_wp2_with fail
  have hw2 := HB1.out.size
  obtain ⟨_, _, _, hbb⟩ := HD2.out
  have hw3 := hbb.size
  clear hbb
  have HI0 : Hid (DS1 W (w2.alloc (.cells (byteCells [0, 0, 0, 0]).toArray t4u8)) (w1.heap.size + 2) w1.heap.size (w1.heap.size + 1) w2.heap.size 0) := Lib.hid
    ⟨[0, 0, 0, 0], newDk 4, rfl, Blk.new w2 t4u8 _, by omega, ((HD2.out.rebase HB1.out).alloc (Nat.le_refl _) _), rfl, rfl, rfl, Nat.le_refl _, by
      intro j hj
      have : j = 0 ∨ j = 1 ∨ j = 2 ∨ j = 3 := by omega
      rcases this with rfl | rfl | rfl | rfl <;> rfl, by
      intro j hj
      have : j = 0 ∨ j = 1 ∨ j = 2 ∨ j = 3 := by omega
      rcases this with rfl | rfl | rfl | rfl <;> decide⟩
  clear HD2 HB1 hw2 hw3
  generalize hb0 : w1.heap.size + 2 = b at *
  generalize hmb : w1.heap.size + 1 = mb at *
  generalize hsb0 : w1.heap.size = sb at *
  generalize hlb0 : w2.heap.size = lb at *
  go_loopw [10] (fun i wr => ∃ k : Nat, k ≤ 12 ∧ k ≤ ahead.length ∧ i = .int .i64 k ∧ DS1 W wr b sb mb lb k) (fun i _ => ahead.length - (intOf i).toNat)
  case atStart => exact ⟨0, by omega, by omega, rfl, HI0.out⟩
  case round =>
    clear HI0
    obtain ⟨k, hk12, hkl, rfl, hI⟩ := hrel
    have HI := Lib.hid hI
    clear hI
    by_cases hgo : k < ahead.length ∧ k < 12
    focus
      obtain ⟨hlt, hlt2⟩ := hgo
      obtain ⟨pb, po, rfl, hpb, hpc⟩ := HP.out (by omega)
      have hcell := (HI.out.bel.cell (p := ⟨pb, po + k, none⟩) hpb).trans (hpc k hlt)
      obtain ⟨n, hn4, hn⟩ := bits_and3 (ahead.getD k 0)
      have HWC := Lib.hid (hpc k hlt)
      generalize ahead.getD k 0 = pk at *
      have hWl := HI.out.le
      obtain ⟨⟨u, hlc⟩, hlz⟩ := HI.out.cell hn4
      obtain ⟨c, hc, hcb⟩ := byte_1 k hlt2
      have HC := Lib.hid hc
      clear hc
      have hn0 : (0 : Int) ≤ (n : Int) := by omega
      have hn1 : (n : Int) < 4 := by omega
      have hwk : IntKind.i64.wrap (1 + (k : Int)) = 1 + (k : Int) := IntWalk.i64_in _ (by omega)
      have hwu : IntKind.u8.wrap (1 + (k : Int)) = 1 + (k : Int) := by simp [IntKind.wrap, IntKind.bits, IntKind.signed]; omega
      have hoth : (wr.setCell ⟨lb, n, none⟩ (.int .u8 (1 + (k : Int)))).cell? ⟨pb, po + k, none⟩ = some (.int .i64 pk) := (World.cell?_setCell_other (h := fun e => by injection e; omega) ..).trans hcell
      clear hWl
      go_upto_region 10 with fail
      have HM3 := Lib.hid ((HI.out.store n (1 + (k : Int)) HC.out hcb).more ((Below.refl _ _).drew))
      have hS : (wr.setCell ⟨lb, n, none⟩ (.int .u8 (1 + (k : Int)))).drew.cell? ⟨pb, po + k, none⟩ = some (.int .i64 pk) := hoth
      clear HI hlc hlz hcell hpc hoth
      refine wp_region_ord [(0, false, true), (1, false, true), (2, false, true), (3, false, true), (4, false, true), (5, false, true), (6, false, true), (7, false, true), (8, false, true), (9, true, true), (10, true, true), (11, false, true)]
        (fun w' => w'.cell? ⟨pb, po + k, none⟩ = some (.int .i64 pk)) (by kernel_rfl) (by kernel_rfl) (by decide) (by kernel_rfl) ?_
      repeat (first
        | (refine O_take _ _ rfl (by rfl) (fun _ _ _ h => h) (by assumption) (fun w hSw => by (simp only [List.getElem_toArray, List.getElem_cons_zero, List.getElem_cons_succ]; go_simp; first | done | with_reducible rfl)) ?_; simp only [Act.put, List.getElem_toArray, List.getElem_cons_zero, List.getElem_cons_succ, List.setIfInBounds_toArray, List.set_cons_zero, List.set_cons_succ])
        | (refine O_pass _ rfl (by rfl) (fun _ _ _ h => h) (by assumption) ?_; simp only [Act.put, List.getElem_toArray, List.getElem_cons_zero, List.getElem_cons_succ, List.setIfInBounds_toArray, List.set_cons_zero, List.set_cons_succ])
        | (refine O_idle _ rfl (by rfl) (by assumption) ?_; simp only [Act.put, List.getElem_toArray, List.getElem_cons_zero, List.getElem_cons_succ, List.setIfInBounds_toArray, List.set_cons_zero, List.set_cons_succ]))
      refine O_act _ rfl (by rfl) (fun K' hK => ?_)
      simp only [List.getElem_toArray, List.getElem_cons_zero, List.getElem_cons_succ]
      go_simp
      (with_reducible refine (fill_any (1 + (k : Int)) c HC.out _).mono ?_)
      rintro e w4 ⟨rfl, hb4⟩
      have hS4 : w4.cell? ⟨pb, po + k, none⟩ = some (.int .i64 pk) := (hb4.cell (p := ⟨pb, po + k, none⟩) (block_lt_of_cell hS)).trans hS
      refine hK _ _ hS4 ?_
      clear hK K'
      have HM4 := Lib.hid (HM3.out.more hb4)
      clear HM3 hb4 hS
      repeat (first
        | (refine O_take _ _ rfl (by rfl) (fun _ _ _ h => h) (by assumption) (fun w hSw => by (simp only [List.getElem_toArray, List.getElem_cons_zero, List.getElem_cons_succ]; go_simp; first | done | with_reducible rfl)) ?_; simp only [Act.put, List.getElem_toArray, List.getElem_cons_zero, List.getElem_cons_succ, List.setIfInBounds_toArray, List.set_cons_zero, List.set_cons_succ])
        | (refine O_pass _ rfl (by rfl) (fun _ _ _ h => h) (by assumption) ?_; simp only [Act.put, List.getElem_toArray, List.getElem_cons_zero, List.getElem_cons_succ, List.setIfInBounds_toArray, List.set_cons_zero, List.set_cons_succ])
        | (refine O_idle _ rfl (by rfl) (by assumption) ?_; simp only [Act.put, List.getElem_toArray, List.getElem_cons_zero, List.getElem_cons_succ, List.setIfInBounds_toArray, List.set_cons_zero, List.set_cons_succ]))
      refine O_act _ rfl (by rfl) (fun K' hK => ?_)
      simp only [List.getElem_toArray, List.getElem_cons_zero, List.getElem_cons_succ]
      go_simp
      (with_reducible refine (HM4.out.write hn4 hlt2).mono ?_)
      rintro e w5 ⟨rfl, hI5⟩
      have hS5 : w5.cell? ⟨pb, po + k, none⟩ = some (.int .i64 pk) := (hI5.bel.cell (p := ⟨pb, po + k, none⟩) hpb).trans HWC.out
      refine hK _ _ hS5 ?_
      clear hK K' hS4
      repeat (first
        | (refine O_take _ _ rfl (by rfl) (fun _ _ _ h => h) (by assumption) (fun w hSw => by (simp only [List.getElem_toArray, List.getElem_cons_zero, List.getElem_cons_succ]; go_simp; first | done | with_reducible rfl)) ?_; simp only [Act.put, List.getElem_toArray, List.getElem_cons_zero, List.getElem_cons_succ, List.setIfInBounds_toArray, List.set_cons_zero, List.set_cons_succ])
        | (refine O_pass _ rfl (by rfl) (fun _ _ _ h => h) (by assumption) ?_; simp only [Act.put, List.getElem_toArray, List.getElem_cons_zero, List.getElem_cons_succ, List.setIfInBounds_toArray, List.set_cons_zero, List.set_cons_succ])
        | (refine O_idle _ rfl (by rfl) (by assumption) ?_; simp only [Act.put, List.getElem_toArray, List.getElem_cons_zero, List.getElem_cons_succ, List.setIfInBounds_toArray, List.set_cons_zero, List.set_cons_succ]))
      refine O_nil ?_
      have HI5 := Lib.hid hI5
      clear hI5 HM4
      (try simp only [NoPanic])
      go_wp2_with fail
      exact ⟨⟨k + 1, by omega, by omega, by go_num, HI5.out⟩, by simp [intOf]; omega⟩
    have hke : k = ahead.length := by omega
    have hdk : decide ((k : Int) < (ahead.length : Int)) = false := by simp; omega
    have hdn : ¬ ((k : Int) < (ahead.length : Int)) := by omega
    clear hgo
    go_wp2_with fail
    focus
      refine (HI.out.sync).mono ?_
      rintro e w6 ⟨rfl, last, hC⟩
      have HC := Lib.hid hC
      clear hC HI
      go_wp2_with fail
      refine (HC.out.dirty).mono ?_
      rintro e w7 ⟨A, cp, rfl, hC⟩
      have HC7 := Lib.hid hC
      clear hC HC
      go_wp2_with fail
      have HJ0 : Hid (DS2 W (w7.alloc (.cells (boolCells [false, false, false, false]).toArray t4b)) b sb mb lb w7.heap.size 0 last) := Lib.hid HC7.out.start
      clear HC7
      generalize hob0 : w7.heap.size = ob at *
      go_loopw [12] (fun i wr => ∃ k : Nat, k ≤ 12 ∧ k ≤ behind.length ∧ i = .int .i64 k ∧ DS2 W wr b sb mb lb ob k last) (fun i _ => behind.length - (intOf i).toNat)
      case atStart => exact ⟨0, by omega, by omega, rfl, HJ0.out⟩
      case round =>
        clear HJ0
        obtain ⟨k, hk12, hkl, rfl, hI⟩ := hrel
        have HI := Lib.hid hI
        clear hI
        by_cases hgo : k < behind.length ∧ k < 12
        focus
          obtain ⟨hlt, hlt2⟩ := hgo
          obtain ⟨pb, po, rfl, hpb, hpc⟩ := HS.out (by omega)
          have hcell := (HI.out.bel.cell (p := ⟨pb, po + k, none⟩) hpb).trans (hpc k hlt)
          obtain ⟨n, hn4, hn⟩ := bits_and3 (behind.getD k 0)
          have HWC := Lib.hid (hpc k hlt)
          generalize behind.getD k 0 = pk at *
          have hWl := HI.out.le
          obtain ⟨⟨u, hlc⟩, hlz⟩ := HI.out.cell hn4
          obtain ⟨c, hc, hcb⟩ := byte_100 k hlt2
          have HC := Lib.hid hc
          clear hc
          have hn0 : (0 : Int) ≤ (n : Int) := by omega
          have hn1 : (n : Int) < 4 := by omega
          have hwk : IntKind.i64.wrap (100 + (k : Int)) = 100 + (k : Int) := IntWalk.i64_in _ (by omega)
          have hwu : IntKind.u8.wrap (100 + (k : Int)) = 100 + (k : Int) := by simp [IntKind.wrap, IntKind.bits, IntKind.signed]; omega
          have hoth : (wr.setCell ⟨ob, n, none⟩ (.bool true)).cell? ⟨pb, po + k, none⟩ = some (.int .i64 pk) := (World.cell?_setCell_other (h := fun e => by injection e; omega) ..).trans hcell
          clear hWl
          go_upto_region 19 with fail
          have HM3 := Lib.hid ((HI.out.store hn4).more ((Below.refl _ _).drew))
          have hS : (wr.setCell ⟨ob, n, none⟩ (.bool true)).drew.cell? ⟨pb, po + k, none⟩ = some (.int .i64 pk) := hoth
          clear HI hlc hlz hcell hpc hoth
          refine wp_region_ord [(0, false, true), (1, false, true), (2, false, true), (3, false, true), (4, false, true), (5, false, true), (6, false, true), (7, false, true), (8, false, true), (9, true, true), (10, true, true), (11, false, true)]
            (fun w' => w'.cell? ⟨pb, po + k, none⟩ = some (.int .i64 pk)) (by kernel_rfl) (by kernel_rfl) (by decide) (by kernel_rfl) ?_
          repeat (first
            | (refine O_take _ _ rfl (by rfl) (fun _ _ _ h => h) (by assumption) (fun w hSw => by (simp only [List.getElem_toArray, List.getElem_cons_zero, List.getElem_cons_succ]; go_simp; first | done | with_reducible rfl)) ?_; simp only [Act.put, List.getElem_toArray, List.getElem_cons_zero, List.getElem_cons_succ, List.setIfInBounds_toArray, List.set_cons_zero, List.set_cons_succ])
            | (refine O_pass _ rfl (by rfl) (fun _ _ _ h => h) (by assumption) ?_; simp only [Act.put, List.getElem_toArray, List.getElem_cons_zero, List.getElem_cons_succ, List.setIfInBounds_toArray, List.set_cons_zero, List.set_cons_succ])
            | (refine O_idle _ rfl (by rfl) (by assumption) ?_; simp only [Act.put, List.getElem_toArray, List.getElem_cons_zero, List.getElem_cons_succ, List.setIfInBounds_toArray, List.set_cons_zero, List.set_cons_succ]))
          refine O_act _ rfl (by rfl) (fun K' hK => ?_)
          simp only [List.getElem_toArray, List.getElem_cons_zero, List.getElem_cons_succ]
          go_simp
          (with_reducible refine (fill_any (100 + (k : Int)) c HC.out _).mono ?_)
          rintro e w4 ⟨rfl, hb4⟩
          have hS4 : w4.cell? ⟨pb, po + k, none⟩ = some (.int .i64 pk) := (hb4.cell (p := ⟨pb, po + k, none⟩) (block_lt_of_cell hS)).trans hS
          refine hK _ _ hS4 ?_
          clear hK K'
          have HM4 := Lib.hid (HM3.out.more hb4)
          clear HM3 hb4 hS
          repeat (first
            | (refine O_take _ _ rfl (by rfl) (fun _ _ _ h => h) (by assumption) (fun w hSw => by (simp only [List.getElem_toArray, List.getElem_cons_zero, List.getElem_cons_succ]; go_simp; first | done | with_reducible rfl)) ?_; simp only [Act.put, List.getElem_toArray, List.getElem_cons_zero, List.getElem_cons_succ, List.setIfInBounds_toArray, List.set_cons_zero, List.set_cons_succ])
            | (refine O_pass _ rfl (by rfl) (fun _ _ _ h => h) (by assumption) ?_; simp only [Act.put, List.getElem_toArray, List.getElem_cons_zero, List.getElem_cons_succ, List.setIfInBounds_toArray, List.set_cons_zero, List.set_cons_succ])
            | (refine O_idle _ rfl (by rfl) (by assumption) ?_; simp only [Act.put, List.getElem_toArray, List.getElem_cons_zero, List.getElem_cons_succ, List.setIfInBounds_toArray, List.set_cons_zero, List.set_cons_succ]))
          refine O_act _ rfl (by rfl) (fun K' hK => ?_)
          simp only [List.getElem_toArray, List.getElem_cons_zero, List.getElem_cons_succ]
          go_simp
          (with_reducible refine (HM4.out.write hn4 hlt2 hcb).mono ?_)
          rintro e w5 ⟨rfl, hI5⟩
          have hS5 : w5.cell? ⟨pb, po + k, none⟩ = some (.int .i64 pk) := (hI5.bel.cell (p := ⟨pb, po + k, none⟩) hpb).trans HWC.out
          refine hK _ _ hS5 ?_
          clear hK K' hS4
          repeat (first
            | (refine O_take _ _ rfl (by rfl) (fun _ _ _ h => h) (by assumption) (fun w hSw => by (simp only [List.getElem_toArray, List.getElem_cons_zero, List.getElem_cons_succ]; go_simp; first | done | with_reducible rfl)) ?_; simp only [Act.put, List.getElem_toArray, List.getElem_cons_zero, List.getElem_cons_succ, List.setIfInBounds_toArray, List.set_cons_zero, List.set_cons_succ])
            | (refine O_pass _ rfl (by rfl) (fun _ _ _ h => h) (by assumption) ?_; simp only [Act.put, List.getElem_toArray, List.getElem_cons_zero, List.getElem_cons_succ, List.setIfInBounds_toArray, List.set_cons_zero, List.set_cons_succ])
            | (refine O_idle _ rfl (by rfl) (by assumption) ?_; simp only [Act.put, List.getElem_toArray, List.getElem_cons_zero, List.getElem_cons_succ, List.setIfInBounds_toArray, List.set_cons_zero, List.set_cons_succ]))
          refine O_nil ?_
          have HI5 := Lib.hid hI5
          clear hI5 HM4
          (try simp only [NoPanic])
          go_wp2_with fail
          exact ⟨⟨k + 1, by omega, by omega, by go_num, HI5.out⟩, by simp [intOf]; omega⟩
        have hke : k = behind.length := by omega
        have hdk : decide ((k : Int) < (behind.length : Int)) = false := by simp; omega
        have hdn : ¬ ((k : Int) < (behind.length : Int)) := by omega
        clear hgo
        go_wp2_with fail
        focus
          refine (HI.out.crash (HF.out.below HI.out.bel)).mono ?_
          rintro e w8 ⟨⟨x, rfl⟩, over, d, h3⟩
          have H3 := Lib.hid h3
          clear h3 HI
          go_wp2_with fail
          go_loopw [13] (fun i wr => ∃ n : Nat, n ≤ 4 ∧ i = .int .i64 n ∧ DS3 W wr b sb mb lb ob last over d) (fun i _ => 4 - (intOf i).toNat)
          case atStart => exact ⟨0, by omega, rfl, H3.out⟩
          case round =>
            clear H3
            obtain ⟨n, hn4, rfl, hI⟩ := hrel
            have HI := Lib.hid hI
            clear hI
            by_cases hn : n < 4
            focus
              have hn1 : (n : Int) < 4 := by omega
              go_wp2_with fail
              refine (HI.out.read hn).mono ?_
              rintro e w9 ⟨rfl, hI⟩
              have HI9 := Lib.hid hI
              clear hI HI
              obtain ⟨l, hl⟩ : ∃ l, last.getD n 0 = l := ⟨_, rfl⟩
              obtain ⟨o, ho⟩ : ∃ o, over.getD n false = o := ⟨_, rfl⟩
              have LIE : Hid (∀ w, DS3 W w b sb mb lb ob last over d → w.cell? ⟨lb, n, none⟩ = some (.int .u8 (l.toNat : Int))) := Lib.hid fun w h => by rw [← hl]; exact h.lie hn
              have OV : Hid (∀ w, DS3 W w b sb mb lb ob last over d → w.cell? ⟨ob, n, none⟩ = some (.bool o)) := Lib.hid fun w h => by rw [← ho]; exact h.ov hn
              have hl12 : l.toNat ≤ 12 := by rw [← hl]; exact HI9.out.small n hn
              have hT := HI9.out.torn n hn
              rw [hl, ho] at hT
              generalize d.secs.getD n [] = sec at *
              obtain ⟨t1, t2, m, t3, t4⟩ := hT
              obtain ⟨ss, hss⟩ : ∃ ss, strOf sec = ss := ⟨_, rfl⟩
              have hsz : ss.size = 128 := by rw [← hss]; exact t1
              have T3 : Hid (∀ j (h : j < ss.size), j < m → 100 ≤ ss[j].toNat) := Lib.hid fun j h hm => by
                rw [str_idx sec ss hss j (by omega) h]
                have := t3 j (by omega) hm
                rwa [List.getD_eq_getElem?_getD, List.getElem?_eq_getElem (by omega)] at this
              have T4 : Hid (∀ j (h : j < ss.size), m ≤ j → ss[j] = l) := Lib.hid fun j h hm => by
                rw [str_idx sec ss hss j (by omega) h]
                have := t4 j (by omega) hm
                rwa [List.getD_eq_getElem?_getD, List.getElem?_eq_getElem (by omega)] at this
              have FI : o = false → Hid (∀ w, Calls Try.prog 12 #[.int .u8 (l.toNat : Int)] w fun e w' => e = .returned (.string ss) ∧ Below w.heap.size w w') := fun h => Lib.hid fun w => by
                have := fill_any (l.toNat : Int) l rfl w
                rwa [← t2 h, hss] at this
              rw [hss]
              clear t1 t2 t3 t4 hss hl ho
              have hlc := LIE.out _ HI9.out
              have hoc := OV.out _ HI9.out
              clear OV
              cases o
              focus
                have FJ := FI rfl
                clear FI
                go_wp2_with fail
                refine (FJ.out _).mono ?_
                rintro e w10 ⟨rfl, hb⟩
                have HIA := Lib.hid (HI9.out.more hb)
                clear hb HI9 hlc hoc FJ
                go_wp2_with fail
              rotate_left
              focus
                have HIA := HI9
                clear HI9 FI
                go_wp2_with fail
                clear hlc hoc
              all_goals
                go_loopw [16, 17] (fun u i wq => ∃ j : Nat, j ≤ 128 ∧ i = .int .i64 j ∧ u = .bool (decide (m < j)) ∧ DS3 W wq b sb mb lb ob last over d) (fun _ i _ => 128 - (intOf i).toNat)
                case atStart => exact ⟨0, by omega, rfl, by simp, HIA.out⟩
                case round =>
                  clear HIA
                  obtain ⟨j, hj, rfl, rfl, hI⟩ := hrel
                  have HI := Lib.hid hI
                  clear hI
                  by_cases hj1 : j < 128
                  focus
                    have hj2 : (j : Int) < 128 := by omega
                    have hjs : j < ss.size := by omega
                    have hlc := LIE.out _ HI.out
                    have g3 := T3.out j hjs
                    have g4 := T4.out j hjs
                    generalize hxj : ss[j] = x at *
                    have hcase : j < m ∨ m = j ∨ m < j := by omega
                    rcases hcase with hm | hm | hm
                    focus
                      have g5 := g3 hm
                      have k1 : decide (m < j) = false := by simp; omega
                      have k2 : decide (m < j + 1) = false := by simp; omega
                      have n0 : ¬ x = l := fun e => by rw [e] at g5; omega
                      have n1 : ¬ ((x.toNat : Int) = (l.toNat : Int)) := by omega
                      have n2 : ((x.toNat : Int) == (l.toNat : Int)) = false := by simpa using n1
                      have n4 : ((x.toNat : Int) != (l.toNat : Int)) = true := by simpa using n1
                      have n3 : ¬ ((x.toNat : Int) < 100) := by omega
                      rw [k1]
                      clear g3 g4 k1
                      go_upto_region 32 with fail
                      refine wp_region_ord [(0, false, true), (1, false, true), (2, false, true), (3, false, true), (4, false, true), (5, false, true), (6, false, true), (7, false, true), (8, false, true), (9, false, true), (10, false, true)]
                        (fun w' => w'.cell? ⟨lb, n, none⟩ = some (.int .u8 (l.toNat : Int))) (by kernel_rfl) (by kernel_rfl) (by decide) (by kernel_rfl) ?_
                      have hS : wr.drew.cell? ⟨lb, n, none⟩ = some (.int .u8 (l.toNat : Int)) := hlc
                      repeat (first
                          | (refine O_take _ _ rfl (by rfl) (fun _ _ _ h => h) (by assumption) (fun w hSw => by (simp only [List.getElem_toArray, List.getElem_cons_zero, List.getElem_cons_succ]; go_simp; first | done | with_reducible rfl)) ?_; simp only [Act.put, List.getElem_toArray, List.getElem_cons_zero, List.getElem_cons_succ, List.setIfInBounds_toArray, List.set_cons_zero, List.set_cons_succ])
                          | (refine O_pass _ rfl (by rfl) (fun _ _ _ h => h) (by assumption) ?_; simp only [Act.put, List.getElem_toArray, List.getElem_cons_zero, List.getElem_cons_succ, List.setIfInBounds_toArray, List.set_cons_zero, List.set_cons_succ])
                          | (refine O_idle _ rfl (by rfl) (by assumption) ?_; simp only [Act.put, List.getElem_toArray, List.getElem_cons_zero, List.getElem_cons_succ, List.setIfInBounds_toArray, List.set_cons_zero, List.set_cons_succ]))
                      refine O_nil ?_
                      (try simp only [NoPanic])
                      go_upto_region 33 with fail
                      refine wp_region_ord [(0, false, true), (1, false, true), (2, false, true), (3, false, true), (4, false, true), (5, false, true), (6, false, true), (7, false, true), (8, false, true), (9, false, true), (10, false, true), (11, false, true), (12, false, true), (13, false, true), (14, false, true), (15, false, true)]
                        (fun w' => w'.cell? ⟨lb, n, none⟩ = some (.int .u8 (l.toNat : Int))) (by kernel_rfl) (by kernel_rfl) (by decide) (by kernel_rfl) ?_
                      have hS : wr.drew.drew.cell? ⟨lb, n, none⟩ = some (.int .u8 (l.toNat : Int)) := hlc
                      repeat (first
                          | (refine O_take _ _ rfl (by rfl) (fun _ _ _ h => h) (by assumption) (fun w hSw => by (simp only [List.getElem_toArray, List.getElem_cons_zero, List.getElem_cons_succ]; go_simp; first | done | with_reducible rfl)) ?_; simp only [Act.put, List.getElem_toArray, List.getElem_cons_zero, List.getElem_cons_succ, List.setIfInBounds_toArray, List.set_cons_zero, List.set_cons_succ])
                          | (refine O_pass _ rfl (by rfl) (fun _ _ _ h => h) (by assumption) ?_; simp only [Act.put, List.getElem_toArray, List.getElem_cons_zero, List.getElem_cons_succ, List.setIfInBounds_toArray, List.set_cons_zero, List.set_cons_succ])
                          | (refine O_idle _ rfl (by rfl) (by assumption) ?_; simp only [Act.put, List.getElem_toArray, List.getElem_cons_zero, List.getElem_cons_succ, List.setIfInBounds_toArray, List.set_cons_zero, List.set_cons_succ]))
                      refine O_nil ?_
                      (try simp only [NoPanic])
                      have HI2 := Lib.hid (HI.out.more ((Below.refl _ _).drew.drew))
                      clear hS hlc HI
                      go_wp2_with fail
                      exact ⟨⟨j + 1, by omega, by go_num, by rw [k2], HI2.out⟩, by simp [intOf]; omega⟩
                    focus
                      have hxl : l = x := (g4 (by omega)).symm
                      subst hxl
                      have k1 : decide (m < j) = false := by simp; omega
                      have k2 : decide (m < j + 1) = true := by simp; omega
                      rw [k1]
                      clear g3 g4 k1
                      go_upto_region 32 with fail
                      refine wp_region_ord [(0, false, true), (1, false, true), (2, false, true), (3, false, true), (4, false, true), (5, false, true), (6, false, true), (7, false, true), (8, false, true), (9, false, true), (10, false, true)]
                        (fun w' => w'.cell? ⟨lb, n, none⟩ = some (.int .u8 (l.toNat : Int))) (by kernel_rfl) (by kernel_rfl) (by decide) (by kernel_rfl) ?_
                      have hS : wr.drew.cell? ⟨lb, n, none⟩ = some (.int .u8 (l.toNat : Int)) := hlc
                      repeat (first
                          | (refine O_take _ _ rfl (by rfl) (fun _ _ _ h => h) (by assumption) (fun w hSw => by (simp only [List.getElem_toArray, List.getElem_cons_zero, List.getElem_cons_succ]; go_simp; first | done | with_reducible rfl)) ?_; simp only [Act.put, List.getElem_toArray, List.getElem_cons_zero, List.getElem_cons_succ, List.setIfInBounds_toArray, List.set_cons_zero, List.set_cons_succ])
                          | (refine O_pass _ rfl (by rfl) (fun _ _ _ h => h) (by assumption) ?_; simp only [Act.put, List.getElem_toArray, List.getElem_cons_zero, List.getElem_cons_succ, List.setIfInBounds_toArray, List.set_cons_zero, List.set_cons_succ])
                          | (refine O_idle _ rfl (by rfl) (by assumption) ?_; simp only [Act.put, List.getElem_toArray, List.getElem_cons_zero, List.getElem_cons_succ, List.setIfInBounds_toArray, List.set_cons_zero, List.set_cons_succ]))
                      refine O_nil ?_
                      (try simp only [NoPanic])
                      go_upto_region 33 with fail
                      refine wp_region_ord [(0, false, true), (1, false, true), (2, false, true), (3, false, true), (4, false, true), (5, false, true), (6, false, true), (7, false, true), (8, false, true), (9, false, true), (10, false, true), (11, false, true), (12, false, true), (13, false, true), (14, false, true), (15, false, true)]
                        (fun w' => w'.cell? ⟨lb, n, none⟩ = some (.int .u8 (l.toNat : Int))) (by kernel_rfl) (by kernel_rfl) (by decide) (by kernel_rfl) ?_
                      have hS : wr.drew.drew.cell? ⟨lb, n, none⟩ = some (.int .u8 (l.toNat : Int)) := hlc
                      repeat (first
                          | (refine O_take _ _ rfl (by rfl) (fun _ _ _ h => h) (by assumption) (fun w hSw => by (simp only [List.getElem_toArray, List.getElem_cons_zero, List.getElem_cons_succ]; go_simp; first | done | with_reducible rfl)) ?_; simp only [Act.put, List.getElem_toArray, List.getElem_cons_zero, List.getElem_cons_succ, List.setIfInBounds_toArray, List.set_cons_zero, List.set_cons_succ])
                          | (refine O_pass _ rfl (by rfl) (fun _ _ _ h => h) (by assumption) ?_; simp only [Act.put, List.getElem_toArray, List.getElem_cons_zero, List.getElem_cons_succ, List.setIfInBounds_toArray, List.set_cons_zero, List.set_cons_succ])
                          | (refine O_idle _ rfl (by rfl) (by assumption) ?_; simp only [Act.put, List.getElem_toArray, List.getElem_cons_zero, List.getElem_cons_succ, List.setIfInBounds_toArray, List.set_cons_zero, List.set_cons_succ]))
                      refine O_nil ?_
                      (try simp only [NoPanic])
                      have HI2 := Lib.hid (HI.out.more ((Below.refl _ _).drew.drew))
                      clear hS hlc HI
                      go_wp2_with fail
                      exact ⟨⟨j + 1, by omega, by go_num, by rw [k2], HI2.out⟩, by simp [intOf]; omega⟩
                    focus
                      have hxl : l = x := (g4 (by omega)).symm
                      subst hxl
                      have k1 : decide (m < j) = true := by simp; omega
                      have k2 : decide (m < j + 1) = true := by simp; omega
                      rw [k1]
                      clear g3 g4 k1
                      go_upto_region 32 with fail
                      refine wp_region_ord [(0, false, true), (1, false, true), (2, false, true), (3, false, true), (4, false, true), (5, false, true), (6, false, true), (7, false, true), (8, false, true), (9, false, true), (10, false, true)]
                        (fun w' => w'.cell? ⟨lb, n, none⟩ = some (.int .u8 (l.toNat : Int))) (by kernel_rfl) (by kernel_rfl) (by decide) (by kernel_rfl) ?_
                      have hS : wr.drew.cell? ⟨lb, n, none⟩ = some (.int .u8 (l.toNat : Int)) := hlc
                      repeat (first
                          | (refine O_take _ _ rfl (by rfl) (fun _ _ _ h => h) (by assumption) (fun w hSw => by (simp only [List.getElem_toArray, List.getElem_cons_zero, List.getElem_cons_succ]; go_simp; first | done | with_reducible rfl)) ?_; simp only [Act.put, List.getElem_toArray, List.getElem_cons_zero, List.getElem_cons_succ, List.setIfInBounds_toArray, List.set_cons_zero, List.set_cons_succ])
                          | (refine O_pass _ rfl (by rfl) (fun _ _ _ h => h) (by assumption) ?_; simp only [Act.put, List.getElem_toArray, List.getElem_cons_zero, List.getElem_cons_succ, List.setIfInBounds_toArray, List.set_cons_zero, List.set_cons_succ])
                          | (refine O_idle _ rfl (by rfl) (by assumption) ?_; simp only [Act.put, List.getElem_toArray, List.getElem_cons_zero, List.getElem_cons_succ, List.setIfInBounds_toArray, List.set_cons_zero, List.set_cons_succ]))
                      refine O_nil ?_
                      (try simp only [NoPanic])
                      go_upto_region 33 with fail
                      refine wp_region_ord [(0, false, true), (1, false, true), (2, false, true), (3, false, true), (4, false, true), (5, false, true), (6, false, true), (7, false, true), (8, false, true), (9, false, true), (10, false, true), (11, false, true), (12, false, true), (13, false, true), (14, false, true), (15, false, true)]
                        (fun w' => w'.cell? ⟨lb, n, none⟩ = some (.int .u8 (l.toNat : Int))) (by kernel_rfl) (by kernel_rfl) (by decide) (by kernel_rfl) ?_
                      have hS : wr.drew.drew.cell? ⟨lb, n, none⟩ = some (.int .u8 (l.toNat : Int)) := hlc
                      repeat (first
                          | (refine O_take _ _ rfl (by rfl) (fun _ _ _ h => h) (by assumption) (fun w hSw => by (simp only [List.getElem_toArray, List.getElem_cons_zero, List.getElem_cons_succ]; go_simp; first | done | with_reducible rfl)) ?_; simp only [Act.put, List.getElem_toArray, List.getElem_cons_zero, List.getElem_cons_succ, List.setIfInBounds_toArray, List.set_cons_zero, List.set_cons_succ])
                          | (refine O_pass _ rfl (by rfl) (fun _ _ _ h => h) (by assumption) ?_; simp only [Act.put, List.getElem_toArray, List.getElem_cons_zero, List.getElem_cons_succ, List.setIfInBounds_toArray, List.set_cons_zero, List.set_cons_succ])
                          | (refine O_idle _ rfl (by rfl) (by assumption) ?_; simp only [Act.put, List.getElem_toArray, List.getElem_cons_zero, List.getElem_cons_succ, List.setIfInBounds_toArray, List.set_cons_zero, List.set_cons_succ]))
                      refine O_nil ?_
                      (try simp only [NoPanic])
                      have HI2 := Lib.hid (HI.out.more ((Below.refl _ _).drew.drew))
                      clear hS hlc HI
                      go_wp2_with fail
                      exact ⟨⟨j + 1, by omega, by go_num, by rw [k2], HI2.out⟩, by simp [intOf]; omega⟩
                  focus
                    obtain rfl : j = 128 := by omega
                    go_wp2_with fail
                    exact ⟨⟨n + 1, by omega, by go_num, HI.out⟩, by simp [intOf]; omega⟩
            focus
              obtain rfl : n = 4 := by omega
              go_wp2_with fail
              refine (HI.out.dirty).mono ?_
              rintro e w11 ⟨A', c', rfl, hI⟩
              have HI11 := Lib.hid hI
              clear hI HI
              go_wp2_with fail
              go_ret
              exact ⟨rfl, HI11.out.bel⟩
end Go.Proofs.Ytmhmfcphjfgppaa

