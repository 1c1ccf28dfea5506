/- sector: Read. -/
import Derived.Test.YtmcnoekpblkpdaaDoorSect6
namespace Go.Proofs.YtmcnoekpblkpdaaDoor
open Go.RowKit

def readV : Option (List UInt8 × (Nat × Nat)) → Value
  | none => .tuple #[.string ⟨#[]⟩, tagV (0, 0), .bool false]
  | some x => .tuple #[.string (strOf x.1), tagV x.2, .bool true]
theorem results_tmp_row_tmp {P : Program} {fn : Func} {w : World} {tmps : Array Value} {r s t : Tmp} {ts : TypeId} (h : fn.results = #[.tmp r, .cell s ts, .tmp t]) {g o : Nat} {x u : Value} (hr : tmps.getD r undef = x) (hs : tmps.getD s undef = .pointer (some ⟨g, o, none⟩)) (ht : tmps.getD t undef = u)
    {cs : List Value} (hc : w.rangeAt g o cs) {d : TypeDesc} (hu : P.underlying ts = some d) (hd : d.isRow = true) (hi : (P.info? ts).map (·.size) = some cs.length) :
    (results fn tmps).run P w = .ok (.tuple #[x, .agg cs.toArray, u]) w := by
  have hr' : tmps[r]?.getD undef = x := by simpa using hr
  have hs' : tmps[s]?.getD undef = .pointer (some ⟨g, o, none⟩) := by simpa using hs
  have ht' : tmps[t]?.getD undef = u := by simpa using ht
  simp [results, h, hr', hs', ht', asAddr, run_loadVar_mid w g o ts cs d hc hu hd hi]
theorem Blk.range0 {w : World} {g : Nat} {t : TypeId} {cs : List Value} (h : Blk w g t cs.toArray) : w.rangeAt g 0 cs := by
  have := h.range 0 cs.length
  rwa [List.drop_zero, List.take_length] at this

theorem end_bad' (s : List UInt8) (h : s.length ≠ 128) (w : World) : Calls Tryd.prog 14 #[.string (strOf s)] w fun e w' => e = .returned (.tuple #[.agg #[.int .u64 0, .int .u64 0], .bool false]) ∧ Below w.heap.size w w' := end_bad s h w

set_option maxHeartbeats 400000 in
set_option maxRecDepth 100000 in
theorem read_len (s : List UInt8) (h : s.length ≠ 128) (w : World) : Calls Tryd.prog 12 #[.string (strOf s)] w fun e w' => e = .returned (readV none) ∧ Below w.heap.size w w' := by
  have E1 := Lib.hid fun w => end_bad' s h w
  generalize strOf s = ss at *
  go_enter Tryd.func12, Tryd.ntmps12
  go_wp2_with fail
  (with_reducible refine (E1.out _).mono ?_)
  rintro e w1 ⟨rfl, hb⟩
  have hN := (Blk.new w tTag #[.int .u64 0, .int .u64 0]).below hb (by simp)
  have HB := Lib.hid (((Bel.refl w).alloc _).step hb)
  have hN1 := hN.alloc (.cells #[.int .u64 0, .int .u64 0] tTag)
  have c0 := hN1.cell 0
  have c1 := hN1.cell 1
  have z0 := hN1.frozen 0
  have z1 := hN1.frozen 1
  have HN := Lib.hid hN1
  clear hb hN hN1
  change _ = some (Value.int .u64 0) at c0
  change _ = some (Value.int .u64 0) at c1
  go_wp2_with fail
  (try simp only [Exit.inBlock, Exit.then])
  refine bodyPost_ret (v := readV none) ?_ rfl ⟨rfl, ((HB.out.alloc _).setCell (p := ⟨w.heap.size, 0, none⟩) (Nat.le_refl _) _).setCell (p := ⟨w.heap.size, 1, none⟩) (Nat.le_refl _) _⟩
  exact results_tmp_row_tmp (r := 2) (s := 3) (t := 4) rfl rfl rfl rfl (cs := [.int .u64 0, .int .u64 0]) (Blk.range0 ((HN.out.set 0 _).set 1 _)) Tryd.underlying24 rfl (by kernel_rfl)

theorem end_ok' (s : List UInt8) (h : s.length = 128) (w : World) : Calls Tryd.prog 14 #[.string (strOf s)] w fun e w' => e = .returned (.tuple #[.agg #[.int .u64 ((endT s).1 : Nat), .int .u64 ((endT s).2 : Nat)], .bool true]) ∧ Below w.heap.size w w' := end_ok s h w

set_option maxHeartbeats 400000 in
set_option maxRecDepth 100000 in
theorem read_128 (s : List UInt8) (h : s.length = 128) (w : World) : Calls Tryd.prog 12 #[.string (strOf s)] w fun e w' => e = .returned (readV (secRead s)) ∧ Below w.heap.size w w' := by
  obtain ⟨ss, hss⟩ : ∃ ss, strOf s = ss := ⟨_, rfl⟩
  have hsz : ss.size = 128 := by rw [← hss]; exact h
  have hs0 : 0 < ss.size := by omega
  have hg : ss[0] = s.getD 0 0 := by
    rw [str_at s ss hss 0 (by omega) hs0]
    rw [List.getD_eq_getElem?_getD, List.getElem?_eq_getElem (by omega)]; rfl
  have HX : Hid (∀ i j, ss.extract i j = strOf ((s.drop i).take (j - i))) := Lib.hid fun i j => by rw [← hss]; exact extract_strOf s i j
  have E1 : Hid (∀ w, Calls Tryd.prog 14 #[.string ss] w fun e w' => e = .returned (.tuple #[.agg #[.int .u64 ((endT s).1 : Nat), .int .u64 ((endT s).2 : Nat)], .bool true]) ∧ Below w.heap.size w w') := Lib.hid fun w => by rw [← hss]; exact end_ok' s h w
  rw [hss]
  have HSR : Hid (secRead s = if (s.getD 0 0).toNat ≤ 107 ∧ ((s.drop (1 + (s.getD 0 0).toNat)).take (107 - (s.getD 0 0).toNat)).all (fun c => c == 0) = true ∧
    foldN 0 ((s.drop 108).take 4) = sumN ((s.drop 1).take (s.getD 0 0).toNat ++ s.drop 112) then some ((s.drop 1).take (s.getD 0 0).toNat, endT s) else none) := Lib.hid (by unfold secRead; simp [h])
  generalize s.getD 0 0 = c at *
  have hc : c.toNat < 256 := c.toNat_lt
  generalize hn : c.toNat = n at *
  have HT : Hid (tagV (endT s) = .agg #[.int .u64 ((endT s).1 : Nat), .int .u64 ((endT s).2 : Nat)]) := Lib.hid rfl
  clear hss
  generalize (endT s).1 = p1 at *
  generalize (endT s).2 = p2 at *
  go_enter Tryd.func12, Tryd.ntmps12
  go_wp2_with fail
  (with_reducible refine (E1.out _).mono ?_)
  rintro e w1 ⟨rfl, hb⟩
  have hN := (Blk.new w tTag #[.int .u64 0, .int .u64 0]).below hb (by simp)
  have HB := Lib.hid (((Bel.refl w).alloc _).step hb)
  have hN1 := hN.alloc (.cells #[.int .u64 (p1 : Int), .int .u64 (p2 : Int)] tTag)
  have c0 := hN1.cell 0
  have c1 := hN1.cell 1
  have z0 := hN1.frozen 0
  have z1 := hN1.frozen 1
  have HN := Lib.hid hN1
  clear hb hN hN1
  change _ = some (Value.int .u64 0) at c0
  change _ = some (Value.int .u64 0) at c1
  by_cases hbig : 107 < n
  · have hd : decide ((107 : Int) < (n : Int)) = true := by simp; omega
    have HS : Hid (secRead s = none) := Lib.hid (by rw [HSR.out, if_neg (by omega)])
    go_wp2_with fail
    (try simp only [Exit.inBlock, Exit.then])
    rw [HS.out]
    refine bodyPost_ret (v := readV none) ?_ rfl ⟨rfl, ((HB.out.alloc _).setCell (p := ⟨w.heap.size, 0, none⟩) (Nat.le_refl _) _).setCell (p := ⟨w.heap.size, 1, none⟩) (Nat.le_refl _) _⟩
    exact results_tmp_row_tmp (r := 2) (s := 3) (t := 4) rfl rfl rfl rfl (cs := [.int .u64 0, .int .u64 0]) (Blk.range0 ((HN.out.set 0 _).set 1 _)) Tryd.underlying24 rfl (by kernel_rfl)
  · have hd : decide ((107 : Int) < (n : Int)) = false := by simp; omega
    have hn1 : 1 + n ≤ 108 := by omega
    have hn2 : (0 : Int) ≤ 1 + (n : Int) := by omega
    have hn3 : 1 + (n : Int) ≤ 108 := by omega
    obtain ⟨piece, hpiece⟩ : ∃ l, (s.drop 1).take n = l := ⟨_, rfl⟩
    obtain ⟨fill, hfill⟩ : ∃ l, (s.drop (1 + n)).take (107 - n) = l := ⟨_, rfl⟩
    obtain ⟨sm, hsm⟩ : ∃ l, (s.drop 108).take 4 = l := ⟨_, rfl⟩
    obtain ⟨tail, htail⟩ : ∃ l, s.drop 112 = l := ⟨_, rfl⟩
    rw [hpiece, hfill, hsm, htail] at HSR
    have lp : piece.length ≤ 107 := by rw [← hpiece]; simp; omega
    have lf : fill.length ≤ 107 := by rw [← hfill]; simp; omega
    have ls : sm.length ≤ 4 := by rw [← hsm]; simp; omega
    have lt : tail.length ≤ 16 := by rw [← htail]; simp; omega
    have hx1 : ss.extract 1 (1 + n) = strOf piece := by rw [HX.out, ← hpiece]; congr 2; omega
    have hx2 : ss.extract (1 + n) 108 = strOf fill := by rw [HX.out, ← hfill]; congr 2; omega
    have hx3 : ss.extract 108 112 = strOf sm := by rw [HX.out, ← hsm]
    have hx4 : ss.extract 112 128 = strOf tail := by rw [HX.out, ← htail, List.take_of_length_le (by simp; omega)]
    have hn4 : (1 + (n : Int)).toNat = 1 + n := by omega
    have T1 : Hid (∀ w, Calls Tryd.prog 24 #[.string (strOf fill), .string ⟨#[0]⟩] w fun e w' => e = .returned (.string (strOf (trimLb (trimRb fill)))) ∧ ∃ m, w' = w.drewN m) := Lib.hid fun w => trim_any fill (by omega) w
    have N1 : Hid (∀ w, Calls Tryd.prog 25 #[.string (strOf sm)] w fun e w' => e = .returned (.int .u64 (foldN 0 sm : Nat)) ∧ w = w') := Lib.hid fun w => number_any sm (by omega) w
    have S1 : Hid (∀ w, Calls Tryd.prog 19 #[.string (strOf (piece ++ tail))] w fun e w' => e = .returned (.int .u32 (sumN (piece ++ tail) : Nat)) ∧ Below w.heap.size w w') := Lib.hid fun w => sum_any _ (by rw [List.length_append]; omega) w
    have hap : strOf piece ++ strOf tail = strOf (piece ++ tail) := strOf_append _ _
    have q1 : (9223372036854775807 < (strOf piece).size + (strOf tail).size) = False := eq_false (by rw [strOf_size, strOf_size]; omega)
    have hws : IntKind.u64.wrap ((sumN (piece ++ tail) : Nat) : Int) = ((sumN (piece ++ tail) : Nat) : Int) := by have := sumN_lt (piece ++ tail); rw [IntKind.wrap_u64]; omega
    have hall : fill.all (fun c => c == 0) = true ↔ trimLb (trimRb fill) = [] := by
      rw [trim_iff]; unfold Zs; rw [List.all_eq_true]; simp
    generalize sumN (piece ++ tail) = sum at *
    generalize foldN 0 sm = num at *
    generalize strOf (piece ++ tail) = xpt at *
    generalize hxp : strOf piece = xp at *
    generalize strOf tail = xt at *
    generalize strOf sm = xs at *
    generalize strOf fill = xf at *
    generalize trimLb (trimRb fill) = tm at *
    have HXP := Lib.hid hxp
    have HALL := Lib.hid hall
    have HN5 := Lib.hid (Blk.new w1 tTag #[.int .u64 (p1 : Int), .int .u64 (p2 : Int)])
    have HB6 := Lib.hid (HB.out.alloc (.cells #[.int .u64 (p1 : Int), .int .u64 (p2 : Int)] tTag))
    have hws' := Lib.hid hws
    have hap' := Lib.hid hap
    clear hbig hpiece hfill hsm htail hxp hall lp lf ls lt HX hap hws
    go_wp2_with fail
    clear hd hs0 hg hc E1
    generalize hw6 : w1.alloc (.cells #[.int .u64 (p1 : Int), .int .u64 (p2 : Int)] tTag) = w6 at *
    clear hw6
    refine wp_region_ord [(0, false, true), (1, false, true), (2, false, true), (3, true, true), (4, false, true), (5, false, true), (6, false, true), (7, false, true), (9, false, true), (10, false, true), (11, false, true), (12, false, true), (8, true, true), (13, true, true), (14, false, true), (15, false, true), (16, false, true)]
      (fun w' => Bel w6 w') (by kernel_rfl) (by kernel_rfl) (by decide) (by kernel_rfl) ?_
    have hS := Bel.start w6
    repeat (first
      | (refine O_take _ _ rfl (by rfl) (fun _ _ _ h => h) (by assumption) (fun w hSw => by (simp only [List.getElem_toArray, List.getElem_cons_zero, List.getElem_cons_succ]; go_simp; first | done | with_reducible rfl)) ?_; simp only [Act.put, List.getElem_toArray, List.getElem_cons_zero, List.getElem_cons_succ, List.setIfInBounds_toArray, List.set_cons_zero, List.set_cons_succ])
      | (refine O_pass _ rfl (by rfl) (fun _ _ _ h => h) (by assumption) ?_; simp only [Act.put, List.getElem_toArray, List.getElem_cons_zero, List.getElem_cons_succ, List.setIfInBounds_toArray, List.set_cons_zero, List.set_cons_succ])
      | (refine O_idle _ rfl (by rfl) (by assumption) ?_; simp only [Act.put, List.getElem_toArray, List.getElem_cons_zero, List.getElem_cons_succ, List.setIfInBounds_toArray, List.set_cons_zero, List.set_cons_succ]))
    refine O_act _ rfl (by rfl) (fun K' hK => ?_)
    simp only [List.getElem_toArray, List.getElem_cons_zero, List.getElem_cons_succ]
    go_simp
    (with_reducible refine (T1.out _).mono ?_)
    rintro e w7 ⟨rfl, m, rfl⟩
    have hS7 := hS.drewN m
    generalize w6.drew.drewN m = w7 at *
    refine hK _ _ hS7 ?_
    clear hK K' hS
    by_cases hz : tm = []
    · subst hz
      have hf : fill.all (fun c => c == 0) = true := HALL.out.2 rfl
      have HF := Lib.hid hf
      obtain ⟨he1, he2⟩ := str_nil
      clear hf
      generalize strOf [] = tt at *
      repeat (first
        | (refine O_take _ _ rfl (by rfl) (fun _ _ _ h => h) (by assumption) (fun w hSw => by (simp only [List.getElem_toArray, List.getElem_cons_zero, List.getElem_cons_succ]; go_simp; first | done | with_reducible rfl)) ?_; simp only [Act.put, List.getElem_toArray, List.getElem_cons_zero, List.getElem_cons_succ, List.setIfInBounds_toArray, List.set_cons_zero, List.set_cons_succ])
        | (refine O_pass _ rfl (by rfl) (fun _ _ _ h => h) (by assumption) ?_; simp only [Act.put, List.getElem_toArray, List.getElem_cons_zero, List.getElem_cons_succ, List.setIfInBounds_toArray, List.set_cons_zero, List.set_cons_succ])
        | (refine O_idle _ rfl (by rfl) (by assumption) ?_; simp only [Act.put, List.getElem_toArray, List.getElem_cons_zero, List.getElem_cons_succ, List.setIfInBounds_toArray, List.set_cons_zero, List.set_cons_succ]))
      refine O_act _ rfl (by rfl) (fun K' hK => ?_)
      simp only [List.getElem_toArray, List.getElem_cons_zero, List.getElem_cons_succ]
      go_simp
      (with_reducible refine (N1.out _).mono ?_)
      rintro e w8 ⟨rfl, rfl⟩
      refine hK _ _ hS7 ?_
      clear hK K'
      repeat (first
        | (refine O_take _ _ rfl (by rfl) (fun _ _ _ h => h) (by assumption) (fun w hSw => by (simp only [List.getElem_toArray, List.getElem_cons_zero, List.getElem_cons_succ]; go_simp; first | done | with_reducible rfl)) ?_; simp only [Act.put, List.getElem_toArray, List.getElem_cons_zero, List.getElem_cons_succ, List.setIfInBounds_toArray, List.set_cons_zero, List.set_cons_succ])
        | (refine O_pass _ rfl (by rfl) (fun _ _ _ h => h) (by assumption) ?_; simp only [Act.put, List.getElem_toArray, List.getElem_cons_zero, List.getElem_cons_succ, List.setIfInBounds_toArray, List.set_cons_zero, List.set_cons_succ])
        | (refine O_idle _ rfl (by rfl) (by assumption) ?_; simp only [Act.put, List.getElem_toArray, List.getElem_cons_zero, List.getElem_cons_succ, List.setIfInBounds_toArray, List.set_cons_zero, List.set_cons_succ]))
      rw [hap'.out]
      refine O_act _ rfl (by rfl) (fun K' hK => ?_)
      simp only [List.getElem_toArray, List.getElem_cons_zero, List.getElem_cons_succ]
      go_simp
      (with_reducible refine (S1.out _).mono ?_)
      rintro e w8 ⟨rfl, hb⟩
      have hS8 := hS7.step hb
      refine hK _ _ hS8 ?_
      clear hK K' hb hS7
      have hws := hws'.out
      by_cases hq : num = sum
      · have hq1 : ((num : Int) != (sum : Int)) = false := by simp [hq]
        have HS : Hid (secRead s = some (piece, endT s)) := Lib.hid (by rw [HSR.out, if_pos ⟨by omega, HF.out, hq⟩])
        clear hq
        repeat (first
          | (refine O_take _ _ rfl (by rfl) (fun _ _ _ h => h) (by assumption) (fun w hSw => by (simp only [List.getElem_toArray, List.getElem_cons_zero, List.getElem_cons_succ]; go_simp; first | done | with_reducible rfl)) ?_; simp only [Act.put, List.getElem_toArray, List.getElem_cons_zero, List.getElem_cons_succ, List.setIfInBounds_toArray, List.set_cons_zero, List.set_cons_succ])
          | (refine O_pass _ rfl (by rfl) (fun _ _ _ h => h) (by assumption) ?_; simp only [Act.put, List.getElem_toArray, List.getElem_cons_zero, List.getElem_cons_succ, List.setIfInBounds_toArray, List.set_cons_zero, List.set_cons_succ])
          | (refine O_idle _ rfl (by rfl) (by assumption) ?_; simp only [Act.put, List.getElem_toArray, List.getElem_cons_zero, List.getElem_cons_succ, List.setIfInBounds_toArray, List.set_cons_zero, List.set_cons_succ]))
        refine O_nil ?_
        have hN8 := HN.out.bel hS8
        have hN9 := HN5.out.bel hS8
        have c0 := hN8.cell 0
        have c1 := hN8.cell 1
        have z0 := hN8.frozen 0
        have z1 := hN8.frozen 1
        have d0 := hN9.cell 0
        have d1 := hN9.cell 1
        have HN8 := Lib.hid hN8
        have HB8 := Lib.hid (HB6.out.step hS8)
        clear hN8 hN9
        change _ = some (Value.int .u64 0) at c0
        change _ = some (Value.int .u64 0) at c1
        change _ = some (Value.int .u64 (p1 : Int)) at d0
        change _ = some (Value.int .u64 (p2 : Int)) at d1
        (try simp only [NoPanic])
        go_wp2_with fail
        go_region
        go_wp2_with fail
        (try simp only [Exit.inBlock, Exit.then])
        rw [HS.out]
        refine bodyPost_ret (v := readV (some (piece, endT s))) ?_ rfl ⟨rfl, ((((HB8.out).setCell (p := ⟨w.heap.size, 0, none⟩) (Nat.le_refl _) _).setCell (p := ⟨w.heap.size, 1, none⟩) (Nat.le_refl _) _)).drew⟩
        rw [show readV (some (piece, endT s)) = .tuple #[.string (strOf piece), tagV (endT s), .bool true] from rfl, HT.out, HXP.out]
        exact results_tmp_row_tmp (r := 2) (s := 3) (t := 4) rfl rfl rfl rfl (cs := [.int .u64 (p1 : Int), .int .u64 (p2 : Int)]) (Blk.range0 ((HN8.out.set 0 _).set 1 _).drew) Tryd.underlying24 rfl (by kernel_rfl)
      · have hq1 : ((num : Int) != (sum : Int)) = true := by simp; omega
        have HS : Hid (secRead s = none) := Lib.hid (by rw [HSR.out, if_neg (fun h => hq h.2.2)])
        clear hq
        repeat (first
          | (refine O_take _ _ rfl (by rfl) (fun _ _ _ h => h) (by assumption) (fun w hSw => by (simp only [List.getElem_toArray, List.getElem_cons_zero, List.getElem_cons_succ]; go_simp; first | done | with_reducible rfl)) ?_; simp only [Act.put, List.getElem_toArray, List.getElem_cons_zero, List.getElem_cons_succ, List.setIfInBounds_toArray, List.set_cons_zero, List.set_cons_succ])
          | (refine O_pass _ rfl (by rfl) (fun _ _ _ h => h) (by assumption) ?_; simp only [Act.put, List.getElem_toArray, List.getElem_cons_zero, List.getElem_cons_succ, List.setIfInBounds_toArray, List.set_cons_zero, List.set_cons_succ])
          | (refine O_idle _ rfl (by rfl) (by assumption) ?_; simp only [Act.put, List.getElem_toArray, List.getElem_cons_zero, List.getElem_cons_succ, List.setIfInBounds_toArray, List.set_cons_zero, List.set_cons_succ]))
        refine O_nil ?_
        have hN8 := HN.out.bel hS8
        have c0 := hN8.cell 0
        have c1 := hN8.cell 1
        have z0 := hN8.frozen 0
        have z1 := hN8.frozen 1
        have HN8 := Lib.hid hN8
        have HB8 := Lib.hid (HB6.out.step hS8)
        clear hN8
        change _ = some (Value.int .u64 0) at c0
        change _ = some (Value.int .u64 0) at c1
        (try simp only [NoPanic])
        go_wp2_with fail
        (try simp only [Exit.inBlock, Exit.then])
        rw [HS.out]
        refine bodyPost_ret (v := readV none) ?_ rfl ⟨rfl, ((HB8.out).setCell (p := ⟨w.heap.size, 0, none⟩) (Nat.le_refl _) _).setCell (p := ⟨w.heap.size, 1, none⟩) (Nat.le_refl _) _⟩
        exact results_tmp_row_tmp (r := 2) (s := 3) (t := 4) rfl rfl rfl rfl (cs := [.int .u64 0, .int .u64 0]) (Blk.range0 ((HN8.out.set 0 _).set 1 _)) Tryd.underlying24 rfl (by kernel_rfl)
    · obtain ⟨hne1, hne2⟩ := str_ne_nil hz
      have HS : Hid (secRead s = none) := Lib.hid (by rw [HSR.out, if_neg (fun h => hz (HALL.out.1 h.2.1))])
      clear hz
      generalize strOf tm = tt at *
      repeat (first
        | (refine O_take _ _ rfl (by rfl) (fun _ _ _ h => h) (by assumption) (fun w hSw => by (simp only [List.getElem_toArray, List.getElem_cons_zero, List.getElem_cons_succ]; go_simp; first | done | with_reducible rfl)) ?_; simp only [Act.put, List.getElem_toArray, List.getElem_cons_zero, List.getElem_cons_succ, List.setIfInBounds_toArray, List.set_cons_zero, List.set_cons_succ])
        | (refine O_pass _ rfl (by rfl) (fun _ _ _ h => h) (by assumption) ?_; simp only [Act.put, List.getElem_toArray, List.getElem_cons_zero, List.getElem_cons_succ, List.setIfInBounds_toArray, List.set_cons_zero, List.set_cons_succ])
        | (refine O_idle _ rfl (by rfl) (by assumption) ?_; simp only [Act.put, List.getElem_toArray, List.getElem_cons_zero, List.getElem_cons_succ, List.setIfInBounds_toArray, List.set_cons_zero, List.set_cons_succ]))
      refine O_nil ?_
      have hN8 := HN.out.bel hS7
      have c0 := hN8.cell 0
      have c1 := hN8.cell 1
      have z0 := hN8.frozen 0
      have z1 := hN8.frozen 1
      have HN8 := Lib.hid hN8
      have HB8 := Lib.hid (HB6.out.step hS7)
      clear hN8
      change _ = some (Value.int .u64 0) at c0
      change _ = some (Value.int .u64 0) at c1
      (try simp only [NoPanic])
      go_wp2_with fail
      (try simp only [Exit.inBlock, Exit.then])
      rw [HS.out]
      refine bodyPost_ret (v := readV none) ?_ rfl ⟨rfl, ((HB8.out).setCell (p := ⟨w.heap.size, 0, none⟩) (Nat.le_refl _) _).setCell (p := ⟨w.heap.size, 1, none⟩) (Nat.le_refl _) _⟩
      exact results_tmp_row_tmp (r := 2) (s := 3) (t := 4) rfl rfl rfl rfl (cs := [.int .u64 0, .int .u64 0]) (Blk.range0 ((HN8.out.set 0 _).set 1 _)) Tryd.underlying24 rfl (by kernel_rfl)
theorem read_any (s : List UInt8) (w : World) : Calls Tryd.prog 12 #[.string (strOf s)] w fun e w' => e = .returned (readV (secRead s)) ∧ Below w.heap.size w w' := by
  by_cases h : s.length = 128
  · exact read_128 s h w
  · have : secRead s = none := by unfold secRead; simp [h]
    rw [this]
    exact read_len s h w
end Go.Proofs.YtmcnoekpblkpdaaDoor
