/- sector: the document's End, Read, Is. -/
import Derived.Test.YtmcnoekpblkpdaaDoorSect9

namespace Go.Proofs.YtmcnoekpblkpdaaDoor
open Go.RowKit

set_option maxHeartbeats 400000 in
set_option maxRecDepth 100000 in
theorem rend_bad (s : List UInt8) (h : s.length ≠ 128) (w : World) : Calls Tryd.prog 15 #[.string (strOf s)] w fun e w' => e = .returned (.tuple #[.agg #[.int .u64 0, .int .u64 0], .bool false]) ∧ Below w.heap.size w w' := by
  have hsz : ((strOf s).size == 128) = false := by
    have : (strOf s).size = s.length := rfl
    rw [this]; simpa using h
  generalize strOf s = ss at *
  go_enter Tryd.func15, Tryd.ntmps15
  go_wp2_with fail
  go_returns
  exact ⟨rfl, (Below.refl _ _).alloc (Nat.le_refl _) _⟩
set_option maxHeartbeats 400000 in
set_option maxRecDepth 100000 in
theorem rend_ok (s : List UInt8) (h : s.length = 128) (w : World) : Calls Tryd.prog 15 #[.string (strOf s)] w fun e w' => e = .returned (.tuple #[.agg #[.int .u64 ((endT s).1 : Nat), .int .u64 ((endT s).2 : Nat)], .bool true]) ∧ Below w.heap.size w w' := by
  have hsz : (strOf s).size = 128 := h
  have x1 : (strOf s).extract 112 120 = strOf ((s.drop 112).take 8) := extract_strOf s 112 120
  have x2 : (strOf s).extract 120 128 = strOf (s.drop 120) := by
    rw [extract_strOf s 120 128, List.take_of_length_le (by simp; omega)]
  have N1 : Hid (∀ w, Calls Tryd.prog 26 #[.string (strOf ((s.drop 112).take 8))] w fun e w' => e = .returned (.int .u64 ((endT s).1 : Nat)) ∧ w = w') := Lib.hid fun w => rnumber_any _ (by simp; omega) w
  have N2 : Hid (∀ w, Calls Tryd.prog 26 #[.string (strOf (s.drop 120))] w fun e w' => e = .returned (.int .u64 ((endT s).2 : Nat)) ∧ w = w') := Lib.hid fun w => rnumber_any _ (by simp; omega) w
  generalize (endT s).1 = p1 at *
  generalize (endT s).2 = p2 at *
  generalize strOf ((s.drop 112).take 8) = s1 at *
  generalize strOf (s.drop 120) = s2 at *
  generalize strOf s = ss at *
  go_enter Tryd.func15, Tryd.ntmps15
  go_wp2_with fail
  have HN := Lib.hid (Blk.new w 24 #[.int .u64 0, .int .u64 0])
  have HB := Lib.hid ((Bel.refl w).alloc (.cells #[.int .u64 0, .int .u64 0] 24))
  change Code.wp _ _ _ _ (w.alloc (.cells #[.int .u64 0, .int .u64 0] 24))
  generalize w.alloc (.cells #[.int .u64 0, .int .u64 0] 24) = w0 at *
  refine wp_region_ord [(0, false, true), (1, false, true), (3, false, true), (4, false, true), (2, true, true), (5, true, true), (6, false, true), (7, true, false), (8, false, false)]
    (fun _ => True) (by kernel_rfl) (by kernel_rfl) (by decide) (by kernel_rfl) ?_
  have hS : True := trivial
  repeat (first
    | (refine O_take _ _ rfl (by rfl) (fun _ _ _ h => h) (by assumption) (fun w hSw => by (simp only [List.getElem_toArray, List.getElem_cons_zero, List.getElem_cons_succ]; go_simp; first | done | with_reducible rfl)) ?_; simp only [Act.put, List.getElem_toArray, List.getElem_cons_zero, List.getElem_cons_succ, List.setIfInBounds_toArray, List.set_cons_zero, List.set_cons_succ])
    | (refine O_pass _ rfl (by rfl) (fun _ _ _ h => h) (by assumption) ?_; simp only [Act.put, List.getElem_toArray, List.getElem_cons_zero, List.getElem_cons_succ, List.setIfInBounds_toArray, List.set_cons_zero, List.set_cons_succ])
    | (refine O_idle _ rfl (by rfl) (by assumption) ?_; simp only [Act.put, List.getElem_toArray, List.getElem_cons_zero, List.getElem_cons_succ, List.setIfInBounds_toArray, List.set_cons_zero, List.set_cons_succ]))
  refine O_act _ rfl (by rfl) (fun K' hK => ?_)
  simp only [List.getElem_toArray, List.getElem_cons_zero, List.getElem_cons_succ]
  go_simp
  (with_reducible refine (N1.out _).mono ?_)
  rintro e w8 ⟨rfl, rfl⟩
  refine hK _ _ hS ?_
  clear hK K'
  repeat (first
    | (refine O_take _ _ rfl (by rfl) (fun _ _ _ h => h) (by assumption) (fun w hSw => by (simp only [List.getElem_toArray, List.getElem_cons_zero, List.getElem_cons_succ]; go_simp; first | done | with_reducible rfl)) ?_; simp only [Act.put, List.getElem_toArray, List.getElem_cons_zero, List.getElem_cons_succ, List.setIfInBounds_toArray, List.set_cons_zero, List.set_cons_succ])
    | (refine O_pass _ rfl (by rfl) (fun _ _ _ h => h) (by assumption) ?_; simp only [Act.put, List.getElem_toArray, List.getElem_cons_zero, List.getElem_cons_succ, List.setIfInBounds_toArray, List.set_cons_zero, List.set_cons_succ])
    | (refine O_idle _ rfl (by rfl) (by assumption) ?_; simp only [Act.put, List.getElem_toArray, List.getElem_cons_zero, List.getElem_cons_succ, List.setIfInBounds_toArray, List.set_cons_zero, List.set_cons_succ]))
  refine O_act _ rfl (by rfl) (fun K' hK => ?_)
  simp only [List.getElem_toArray, List.getElem_cons_zero, List.getElem_cons_succ]
  go_simp
  (with_reducible refine (N2.out _).mono ?_)
  rintro e w8 ⟨rfl, rfl⟩
  refine hK _ _ hS ?_
  clear hK K'
  repeat (first
    | (refine O_take _ _ rfl (by rfl) (fun _ _ _ h => h) (by assumption) (fun w hSw => by (simp only [List.getElem_toArray, List.getElem_cons_zero, List.getElem_cons_succ]; go_simp; first | done | with_reducible rfl)) ?_; simp only [Act.put, List.getElem_toArray, List.getElem_cons_zero, List.getElem_cons_succ, List.setIfInBounds_toArray, List.set_cons_zero, List.set_cons_succ])
    | (refine O_pass _ rfl (by rfl) (fun _ _ _ h => h) (by assumption) ?_; simp only [Act.put, List.getElem_toArray, List.getElem_cons_zero, List.getElem_cons_succ, List.setIfInBounds_toArray, List.set_cons_zero, List.set_cons_succ])
    | (refine O_idle _ rfl (by rfl) (by assumption) ?_; simp only [Act.put, List.getElem_toArray, List.getElem_cons_zero, List.getElem_cons_succ, List.setIfInBounds_toArray, List.set_cons_zero, List.set_cons_succ]))
  obtain ⟨c0, c1⟩ := (HN.out.drew).two
  have z0 := HN.out.drew.frozen 0
  have z1 := HN.out.drew.frozen 1
  have HN1 := Lib.hid HN.out.drew
  have HB1 := Lib.hid HB.out.drew
  clear HN HB
  generalize w0.drew = w1 at *
  refine O_actF _ rfl (by rfl) (fun K' hK => ?_)
  simp only [List.getElem_toArray, List.getElem_cons_zero, List.getElem_cons_succ]
  go_simp
  refine hK _ _ ?_
  clear hK K'
  (try simp only [Act.put, List.getElem_toArray, List.getElem_cons_zero, List.getElem_cons_succ, List.setIfInBounds_toArray, List.set_cons_zero, List.set_cons_succ])
  refine O_takeF _ _ rfl (by rfl) (fun _ _ _ h => h) (fun w => by (simp only [List.getElem_toArray, List.getElem_cons_zero, List.getElem_cons_succ]; go_simp; first | done | with_reducible rfl)) ?_
  (try simp only [Act.put, List.getElem_toArray, List.getElem_cons_zero, List.getElem_cons_succ, List.setIfInBounds_toArray, List.set_cons_zero, List.set_cons_succ])
  refine O_nil ?_
  (try simp only [NoPanic])
  go_wp2_with fail
  (try simp only [Exit.inBlock, Exit.then])
  refine bodyPost_ret (v := .tuple #[.agg #[.int .u64 (p1 : Int), .int .u64 (p2 : Int)], .bool true]) ?_ rfl ⟨rfl, ((HB1.out.setCell (p := ⟨w.heap.size, 0, none⟩) (Nat.le_refl _) _).setCell (p := ⟨w.heap.size, 1, none⟩) (Nat.le_refl _) _)⟩
  exact results_row_tmp (s := 2) (t := 3) rfl rfl rfl (cs := [.int .u64 (p1 : Int), .int .u64 (p2 : Int)]) (Blk.range0 ((HN1.out.set 0 _).set 1 _)) Tryd.underlying24 rfl (by kernel_rfl)

theorem read_eq (s : List UInt8) (h : s.length = 128) (hn : (s.getD 0 0).toNat ≤ 107) : secRead s = if secMake ((s.drop 1).take (s.getD 0 0).toNat) (endT s) = s then some ((s.drop 1).take (s.getD 0 0).toNat, endT s) else none := by
  obtain ⟨e1, e2⟩ := endT_lt s h
  have hl : ((s.drop 1).take (s.getD 0 0).toNat).length ≤ 107 := by rw [List.length_take]; omega
  by_cases he : secMake ((s.drop 1).take (s.getD 0 0).toNat) (endT s) = s
  · rw [if_pos he]
    have := read_make _ _ hl e1 e2
    rwa [he] at this
  · rw [if_neg he]
    cases hr : secRead s with
    | none => rfl
    | some x =>
      exfalso
      obtain ⟨p, t⟩ := x
      obtain ⟨h1, h2, h3, h4⟩ := read_some hr
      apply he
      have hN := sm_len p t h1
      have hP := (sm_parts p t h1).2.1
      have hE := sm_end p t h1 h2 h3
      rw [← h4] at hN hP hE
      rw [hN, hP, hE, ← h4]
/-- What the document's Read gives. -/
def gotL : Option (List UInt8 × (Nat × Nat)) → List Value
  | none => [.string ⟨#[]⟩, .int .u64 0, .int .u64 0, .bool false]
  | some x => [.string (strOf x.1), .int .u64 (x.2.1 : Nat), .int .u64 (x.2.2 : Nat), .bool true]
theorem results_row1 {P : Program} {fn : Func} {w : World} {tmps : Array Value} {s : Tmp} {ts : TypeId} (h : fn.results = #[.cell s ts]) {g o : Nat} (hs : tmps.getD s undef = .pointer (some ⟨g, o, none⟩))
    {cs : List Value} (hc : w.rangeAt g o cs) {d : TypeDesc} (hu : P.underlying ts = some d) (hd : d.isRow = true) (hi : (P.info? ts).map (·.size) = some cs.length) :
    (results fn tmps).run P w = .ok (.agg cs.toArray) w := by
  have hs' : tmps[s]?.getD undef = .pointer (some ⟨g, o, none⟩) := by simpa using hs
  simp [results, h, hs', asAddr, run_loadVar_mid w g o ts cs d hc hu hd hi]

abbrev tGot : TypeId := 35
set_option maxHeartbeats 400000 in
set_option maxRecDepth 100000 in
theorem rread_len (s : List UInt8) (h : s.length ≠ 128) (w : World) : Calls Tryd.prog 13 #[.string (strOf s)] w fun e w' => e = .returned (.agg (gotL none).toArray) ∧ Below w.heap.size w w' := by
  have E1 := Lib.hid fun w => rend_bad s h w
  have HG : Hid (gotL none = [.string ⟨#[]⟩, .int .u64 0, .int .u64 0, .bool false]) := Lib.hid rfl
  generalize gotL none = gz at *
  generalize strOf s = ss at *
  go_enter Tryd.func13, Tryd.ntmps13
  go_wp2_with fail
  (with_reducible refine (E1.out _).mono ?_)
  rintro e w1 ⟨rfl, hb⟩
  have hN := (Blk.new w tGot #[.string ⟨#[]⟩, .int .u64 0, .int .u64 0, .bool false]).below hb (by simp)
  have HB := Lib.hid ((((Bel.refl w).alloc _).step hb).alloc (.cells #[.int .u64 0, .int .u64 0] 24))
  have hN1 := hN.alloc (.cells #[.int .u64 0, .int .u64 0] 24)
  have HN := Lib.hid hN1
  have c0 := hN1.cell 0
  have c1 := hN1.cell 1
  have c2 := hN1.cell 2
  have c3 := hN1.cell 3
  have z0 := hN1.frozen 0
  have z1 := hN1.frozen 1
  have z2 := hN1.frozen 2
  have z3 := hN1.frozen 3
  change _ = some (Value.string ⟨#[]⟩) at c0
  change _ = some (Value.int .u64 0) at c1
  change _ = some (Value.int .u64 0) at c2
  change _ = some (Value.bool false) at c3
  clear hb hN hN1
  go_wp2_with fail
  (try simp only [Exit.inBlock, Exit.then])
  refine bodyPost_ret (v := .agg ([.string ⟨#[]⟩, .int .u64 0, .int .u64 0, .bool false] : List Value).toArray) ?_ rfl ⟨by rw [HG.out], ((((HB.out).setCell (p := ⟨w.heap.size, 0, none⟩) (Nat.le_refl _) _).setCell (p := ⟨w.heap.size, 1, none⟩) (Nat.le_refl _) _).setCell (p := ⟨w.heap.size, 2, none⟩) (Nat.le_refl _) _).setCell (p := ⟨w.heap.size, 3, none⟩) (Nat.le_refl _) _⟩
  exact results_row1 (s := 2) rfl rfl (cs := [.string ⟨#[]⟩, .int .u64 0, .int .u64 0, .bool false]) (Blk.range0 ((((HN.out.set 0 _).set 1 _).set 2 _).set 3 _)) Tryd.underlying35 rfl (by kernel_rfl)

set_option maxHeartbeats 1000000 in
set_option maxRecDepth 100000 in
theorem rread_128 (s : List UInt8) (h : s.length = 128) (w : World) : Calls Tryd.prog 13 #[.string (strOf s)] w fun e w' => e = .returned (.agg (gotL (secRead s)).toArray) ∧ Below w.heap.size w w' := by
  obtain ⟨ss, hss⟩ : ∃ ss, strOf s = ss := ⟨_, rfl⟩
  have hsz : ss.size = 128 := by rw [← hss]; exact h
  have hs0 : 0 < ss.size := by omega
  have hg : ss[0] = s.getD 0 0 := by
    rw [str_at s ss hss 0 (by omega) hs0]
    rw [List.getD_eq_getElem?_getD, List.getElem?_eq_getElem (by omega)]; rfl
  have HX : Hid (∀ i j, ss.extract i j = strOf ((s.drop i).take (j - i))) := Lib.hid fun i j => by rw [← hss]; exact extract_strOf s i j
  have E1 : Hid (∀ w, Calls Tryd.prog 15 #[.string ss] w fun e w' => e = .returned (.tuple #[.agg #[.int .u64 ((endT s).1 : Nat), .int .u64 ((endT s).2 : Nat)], .bool true]) ∧ Below w.heap.size w w') := Lib.hid fun w => by rw [← hss]; exact rend_ok s h w
  have HBIG : Hid (107 < (s.getD 0 0).toNat → secRead s = none) := Lib.hid fun hb => by unfold secRead; rw [if_neg (by omega)]
  have HEQ : Hid ((s.getD 0 0).toNat ≤ 107 → secRead s = if secMake ((s.drop 1).take (s.getD 0 0).toNat) (endT s) = s then some ((s.drop 1).take (s.getD 0 0).toNat, endT s) else none) := Lib.hid fun hn => read_eq s h hn
  have HMK : Hid ((s.getD 0 0).toNat ≤ 107 → ∀ w, Calls Tryd.prog 11 #[.string (strOf ((s.drop 1).take (s.getD 0 0).toNat)), .agg #[.int .u64 ((endT s).1 : Nat), .int .u64 ((endT s).2 : Nat)]] w fun e w' => e = .returned (.tuple #[.string (strOf (secMake ((s.drop 1).take (s.getD 0 0).toNat) (endT s))), .int .i64 0]) ∧ Below w.heap.size w w') := Lib.hid fun hn w => rmake_any _ (by rw [List.length_take]; omega) (endT s) (endT_lt s h).1 (endT_lt s h).2 w
  rw [hss]
  obtain ⟨rr, hrr⟩ : ∃ r, secRead s = r := ⟨_, rfl⟩
  rw [hrr] at HBIG HEQ ⊢
  clear hrr
  generalize s.getD 0 0 = c at *
  have hc : c.toNat < 256 := c.toNat_lt
  generalize hn : c.toNat = n at *
  have HSS := Lib.hid hss
  clear hss
  obtain ⟨u, hu⟩ : ∃ u, endT s = u := ⟨_, rfl⟩
  rw [hu] at E1 HEQ HMK
  clear hu
  obtain ⟨p1, p2⟩ := u
  go_enter Tryd.func13, Tryd.ntmps13
  go_wp2_with fail
  (with_reducible refine (E1.out _).mono ?_)
  rintro e w1 ⟨rfl, hb⟩
  have hN := (Blk.new w tGot #[.string ⟨#[]⟩, .int .u64 0, .int .u64 0, .bool false]).below hb (by simp)
  have HB := Lib.hid ((((Bel.refl w).alloc _).step hb).alloc (.cells #[.int .u64 (p1 : Int), .int .u64 (p2 : Int)] 24))
  have hN1 := hN.alloc (.cells #[.int .u64 (p1 : Int), .int .u64 (p2 : Int)] 24)
  have hT := Blk.new w1 24 #[.int .u64 (p1 : Int), .int .u64 (p2 : Int)]
  have HN := Lib.hid hN1
  have HT := Lib.hid hT
  have c0 := hN1.cell 0
  have c1 := hN1.cell 1
  have c2 := hN1.cell 2
  have c3 := hN1.cell 3
  have z0 := hN1.frozen 0
  have z1 := hN1.frozen 1
  have z2 := hN1.frozen 2
  have z3 := hN1.frozen 3
  change _ = some (Value.string ⟨#[]⟩) at c0
  change _ = some (Value.int .u64 0) at c1
  change _ = some (Value.int .u64 0) at c2
  change _ = some (Value.bool false) at c3
  obtain ⟨t0, t1⟩ := hT.two
  clear hb hN hN1 hT
  by_cases hbig : 107 < n
  focus
    have hd : decide ((107 : Int) < (n : Int)) = true := by simp; omega
    have HRR := Lib.hid (HBIG.out hbig)
    go_wp2_with fail
    (try simp only [Exit.inBlock, Exit.then])
    refine bodyPost_ret (v := .agg ([.string ⟨#[]⟩, .int .u64 0, .int .u64 0, .bool false] : List Value).toArray) ?_ rfl ⟨by rw [HRR.out, show gotL none = [.string ⟨#[]⟩, .int .u64 0, .int .u64 0, .bool false] from rfl], ((((HB.out).setCell (p := ⟨w.heap.size, 0, none⟩) (Nat.le_refl _) _).setCell (p := ⟨w.heap.size, 1, none⟩) (Nat.le_refl _) _).setCell (p := ⟨w.heap.size, 2, none⟩) (Nat.le_refl _) _).setCell (p := ⟨w.heap.size, 3, none⟩) (Nat.le_refl _) _⟩
    exact results_row1 (s := 2) rfl rfl (cs := [.string ⟨#[]⟩, .int .u64 0, .int .u64 0, .bool false]) (Blk.range0 ((((HN.out.set 0 _).set 1 _).set 2 _).set 3 _)) Tryd.underlying35 rfl (by kernel_rfl)
  focus
    have hd : decide ((107 : Int) < (n : Int)) = false := by simp; omega
    have hn1 : 1 + n ≤ 128 := by omega
    have hn2 : (0 : Int) ≤ 1 + (n : Int) := by omega
    have hn3 : 1 + (n : Int) ≤ 128 := by omega
    have hn4 : (1 + (n : Int)).toNat = 1 + n := by omega
    have hx1 : ss.extract 1 (1 + n) = strOf ((s.drop 1).take n) := by rw [HX.out]; congr 2; omega
    have HRR := Lib.hid (HEQ.out (by omega))
    have HM : Hid (∀ w, Calls Tryd.prog 11 #[.string (strOf ((s.drop 1).take n)), .agg #[.int .u64 (p1 : Int), .int .u64 (p2 : Int)]] w fun e w' => e = .returned (.tuple #[.string (strOf (secMake ((s.drop 1).take n) (p1, p2))), .int .i64 0]) ∧ Below w.heap.size w w') := Lib.hid (HMK.out (by omega))
    clear HX HEQ HMK HBIG hbig
    generalize (s.drop 1).take n = pc at *
    go_wp2_with fail
    (with_reducible refine (HM.out _).mono ?_)
    rintro e w2 ⟨rfl, hb⟩
    have hN2 := HN.out.bel hb
    have hT2 := HT.out.bel hb
    have HB2 := Lib.hid (HB.out.step hb)
    clear c0 c1 c2 c3 z0 z1 z2 z3 t0 t1
    have c0 := hN2.cell 0
    have c1 := hN2.cell 1
    have c2 := hN2.cell 2
    have c3 := hN2.cell 3
    have z0 := hN2.frozen 0
    have z1 := hN2.frozen 1
    have z2 := hN2.frozen 2
    have z3 := hN2.frozen 3
    change _ = some (Value.string ⟨#[]⟩) at c0
    change _ = some (Value.int .u64 0) at c1
    change _ = some (Value.int .u64 0) at c2
    change _ = some (Value.bool false) at c3
    obtain ⟨t0, t1⟩ := hT2.two
    have HN2 := Lib.hid hN2
    clear hN2 hT2 hb HN HT HB
    by_cases he : secMake pc (p1, p2) = s
    focus
      have HR2 : Hid (rr = some (pc, (p1, p2))) := Lib.hid (by rw [HRR.out, if_pos he])
      have hes : strOf (secMake pc (p1, p2)) = ss := by rw [he, HSS.out]
      rw [hes]
      clear HRR he hes
      generalize hsp : strOf pc = sp at *
      have HG := Lib.hid hsp
      clear hsp
      go_wp2_with fail
      (try simp only [Exit.inBlock, Exit.then])
      refine bodyPost_ret (v := .agg ([.string sp, .int .u64 (p1 : Int), .int .u64 (p2 : Int), .bool true] : List Value).toArray) ?_ rfl ⟨by rw [HR2.out, show gotL (some (pc, (p1, p2))) = [.string (strOf pc), .int .u64 (p1 : Int), .int .u64 (p2 : Int), .bool true] from rfl, HG.out], ((((HB2.out).setCell (p := ⟨w.heap.size, 0, none⟩) (Nat.le_refl _) _).setCell (p := ⟨w.heap.size, 1, none⟩) (Nat.le_refl _) _).setCell (p := ⟨w.heap.size, 2, none⟩) (Nat.le_refl _) _).setCell (p := ⟨w.heap.size, 3, none⟩) (Nat.le_refl _) _⟩
      exact results_row1 (s := 2) rfl rfl (cs := [.string sp, .int .u64 (p1 : Int), .int .u64 (p2 : Int), .bool true]) (Blk.range0 ((((HN2.out.set 0 _).set 1 _).set 2 _).set 3 _)) Tryd.underlying35 rfl (by kernel_rfl)
    focus
      have HR2 : Hid (rr = none) := Lib.hid (by rw [HRR.out, if_neg he])
      obtain ⟨hne1, hne2⟩ := str_ne he
      rw [HSS.out] at hne1 hne2
      clear HRR he
      generalize strOf (secMake pc (p1, p2)) = xx at *
      go_wp2_with fail
      (try simp only [Exit.inBlock, Exit.then])
      refine bodyPost_ret (v := .agg ([.string ⟨#[]⟩, .int .u64 0, .int .u64 0, .bool false] : List Value).toArray) ?_ rfl ⟨by rw [HR2.out, show gotL none = [.string ⟨#[]⟩, .int .u64 0, .int .u64 0, .bool false] from rfl], ((((HB2.out).setCell (p := ⟨w.heap.size, 0, none⟩) (Nat.le_refl _) _).setCell (p := ⟨w.heap.size, 1, none⟩) (Nat.le_refl _) _).setCell (p := ⟨w.heap.size, 2, none⟩) (Nat.le_refl _) _).setCell (p := ⟨w.heap.size, 3, none⟩) (Nat.le_refl _) _⟩
      exact results_row1 (s := 2) rfl rfl (cs := [.string ⟨#[]⟩, .int .u64 0, .int .u64 0, .bool false]) (Blk.range0 ((((HN2.out.set 0 _).set 1 _).set 2 _).set 3 _)) Tryd.underlying35 rfl (by kernel_rfl)
theorem rread_any (s : List UInt8) (w : World) : Calls Tryd.prog 13 #[.string (strOf s)] w fun e w' => e = .returned (.agg (gotL (secRead s)).toArray) ∧ Below w.heap.size w w' := by
  by_cases h : s.length = 128
  · exact rread_128 s h w
  · have : secRead s = none := by unfold secRead; simp [h]
    rw [this]
    exact rread_len s h w

set_option maxHeartbeats 400000 in
set_option maxRecDepth 100000 in
theorem ris_any (s : List UInt8) (t : Nat × Nat) (w : World) : Calls Tryd.prog 17 #[.string (strOf s), tagV t] w fun e w' => e = .returned (.bool (isB s t)) ∧ Below w.heap.size w w' := by
  obtain ⟨t1, t2⟩ := t
  have R1 := Lib.hid fun w => rread_any s w
  cases hr : secRead s with
  | none =>
    have HI : Hid (isB s (t1, t2) = false) := Lib.hid (by unfold isB; rw [hr])
    rw [hr] at R1
    have R2 : Hid (∀ w, Calls Tryd.prog 13 #[.string (strOf s)] w fun e w' => e = .returned (.agg #[.string ⟨#[]⟩, .int .u64 0, .int .u64 0, .bool false]) ∧ Below w.heap.size w w') := Lib.hid fun w => R1.out w
    clear R1 hr
    unfold tagV
    generalize strOf s = ss at *
    go_enter Tryd.func17, Tryd.ntmps17
    go_wp2_with fail
    (with_reducible refine (R2.out _).mono ?_)
    rintro e w1 ⟨rfl, hb⟩
    have HB := Lib.hid (((Bel.refl w).alloc _).step hb)
    clear hb
    go_wp2_with fail
    go_ret
    exact ⟨by rw [HI.out]; rfl, HB.out.alloc _⟩
  | some x =>
    obtain ⟨p, u1, u2⟩ := x
    have HI : Hid (isB s (t1, t2) = (u1 == t1 && u2 == t2)) := Lib.hid (by unfold isB; rw [hr])
    rw [hr] at R1
    have R2 : Hid (∀ w, Calls Tryd.prog 13 #[.string (strOf s)] w fun e w' => e = .returned (.agg #[.string (strOf p), .int .u64 (u1 : Int), .int .u64 (u2 : Int), .bool true]) ∧ Below w.heap.size w w') := Lib.hid fun w => R1.out w
    clear R1 hr
    unfold tagV
    generalize strOf s = ss at *
    generalize strOf p = sp at *
    go_enter Tryd.func17, Tryd.ntmps17
    go_wp2_with fail
    (with_reducible refine (R2.out _).mono ?_)
    rintro e w1 ⟨rfl, hb⟩
    have hN := (Blk.new w tTag #[.int .u64 (t1 : Int), .int .u64 (t2 : Int)]).below hb (by simp)
    have hN1 := hN.alloc (.cells #[.string sp, .int .u64 (u1 : Int), .int .u64 (u2 : Int), .bool true] tGot)
    obtain ⟨c0, c1⟩ := hN1.two
    have HB := Lib.hid (((Bel.refl w).alloc _).step hb)
    clear hb hN hN1
    go_wp2_with fail
    all_goals
      go_ret
      refine ⟨?_, HB.out.alloc _⟩
      rw [HI.out]
      show Ending.returned (.bool _) = Ending.returned (.bool _)
      congr 2
      rw [Bool.eq_iff_iff]
      simp
      omega
end Go.Proofs.YtmcnoekpblkpdaaDoor
