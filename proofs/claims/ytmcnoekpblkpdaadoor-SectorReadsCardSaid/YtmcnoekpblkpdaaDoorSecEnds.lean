/- SectorEnds: whatever piece and two tags come in, a sector has 128 bytes, begins with its piece's length and the piece, and ends with its tag: the law returns true, and leaves its arguments as they were. No condition beside the row's own. -/
import Derived.Test.YtmcnoekpblkpdaaDoorSect8
import Derived.Test.YtmcnoekpblkpdaaDoorSecCard
namespace Go.Proofs.YtmcnoekpblkpdaaDoor
open Go.ChangeShapes Go.WideShapes Go.ChangeAt Go.RowKit Go.ChangeMaps

theorem Blk.two {w : World} {g : Nat} {t : TypeId} {x y : Value} (h : Blk w g t #[x, y]) : w.cell? ⟨g, 0, none⟩ = some x ∧ w.cell? ⟨g, 1, none⟩ = some y := ⟨h.cell 0, h.cell 1⟩
theorem sm_head (p : List UInt8) (t : Nat × Nat) (h : p.length ≤ 107) : (secMake p t).take 108 = [UInt8.ofNat p.length] ++ p ++ zeros (107 - p.length) := by
  unfold secMake
  rw [List.append_assoc, List.take_append_of_le_length (by simp [zeros]; omega), List.take_of_length_le (by simp [zeros]; omega)]
theorem isB_make (p : List UInt8) (t u : Nat × Nat) (h : p.length ≤ 107) (h1 : t.1 < 18446744073709551616) (h2 : t.2 < 18446744073709551616) : isB (secMake p t) u = (t.1 == u.1 && t.2 == u.2) := by
  unfold isB
  rw [read_make p t h h1 h2]
/-- What is known of a piece's sector, as a string. -/
structure SecStr (s p hd : ByteArray) (n : Nat) : Prop where
  size : s.size = 128
  first : ∀ h : 0 < s.size, (s[0]'h).toNat = n
  piece : s.extract 1 (1 + n) = p
  head : s.extract 0 108 = hd
theorem secStr (p : List UInt8) (t : Nat × Nat) (h : p.length ≤ 107) : SecStr (strOf (secMake p t)) (strOf p) (strOf ([UInt8.ofNat p.length] ++ p ++ zeros (107 - p.length))) p.length := by
  have hL := secMake_length p t h
  refine ⟨hL, fun h0 => ?_, ?_, ?_⟩
  · rw [str_at (secMake p t) _ rfl 0 (by omega) h0, ← sm_len p t h, List.getD_eq_getElem?_getD, List.getElem?_eq_getElem (by omega)]
    rfl
  · rw [extract_strOf, show 1 + p.length - 1 = p.length by omega, (sm_parts p t h).2.1]
  · rw [extract_strOf, List.drop_zero, show 108 - 0 = 108 by omega, sm_head p t h]

set_option maxHeartbeats 1000000 in
set_option maxRecDepth 100000 in
theorem ends_walk (p0 : List UInt8) (hp0 : p0.length ≤ 9223372036854775807) (t1 t2 u1 u2 : Nat) (ht1 : t1 < 18446744073709551616) (ht2 : t2 < 18446744073709551616) (hu1 : u1 < 18446744073709551616) (hu2 : u2 < 18446744073709551616) (w : World) :
    Calls Tryd.prog 6 #[.string (strOf p0), .agg #[.int .u64 (t1 : Int), .int .u64 (t2 : Int)], .agg #[.int .u64 (u1 : Int), .int .u64 (u2 : Int)]] w fun e w' => e = .returned (.bool true) ∧ Below w.heap.size w w' := by
  have HA := Lib.hid fun w => awake_any w
  have SH : Hid (∀ w, Calls Tryd.prog 10 #[.string (strOf p0), .int .i64 107] w fun e w' => e = .returned (.string (strOf (p0.take 107))) ∧ w = w') := Lib.hid fun w => short_any p0 107 w hp0
  have hp : (p0.take 107).length ≤ 107 := List.length_take_le _ _
  generalize p0.take 107 = p at *
  have M1 : Hid (∀ w, Calls Tryd.prog 18 #[.string (strOf p), .agg #[.int .u64 (t1 : Int), .int .u64 (t2 : Int)]] w fun e w' => e = .returned (.tuple #[.string (strOf (secMake p (t1, t2))), .int .i64 0]) ∧ Below w.heap.size w w') := Lib.hid fun w => make_any p hp (t1, t2) w
  have M2 : Hid (∀ w, Calls Tryd.prog 18 #[.string (strOf p), .agg #[.int .u64 (u1 : Int), .int .u64 (u2 : Int)]] w fun e w' => e = .returned (.tuple #[.string (strOf (secMake p (u1, u2))), .int .i64 0]) ∧ Below w.heap.size w w') := Lib.hid fun w => make_any p hp (u1, u2) w
  have E1 : Hid (∀ w, Calls Tryd.prog 14 #[.string (strOf (secMake p (t1, t2)))] w fun e w' => e = .returned (.tuple #[.agg #[.int .u64 (t1 : Int), .int .u64 (t2 : Int)], .bool true]) ∧ Below w.heap.size w w') := Lib.hid fun w => by
    have := end_ok' (secMake p (t1, t2)) (secMake_length p (t1, t2) hp) w
    rwa [sm_end p (t1, t2) hp ht1 ht2] at this
  have I1 : Hid (∀ w, Calls Tryd.prog 16 #[.string (strOf (secMake p (t1, t2))), .agg #[.int .u64 (t1 : Int), .int .u64 (t2 : Int)]] w fun e w' => e = .returned (.bool true) ∧ Below w.heap.size w w') := Lib.hid fun w => by
    have := is_any (secMake p (t1, t2)) (t1, t2) w
    rw [isB_make p (t1, t2) (t1, t2) hp ht1 ht2, show ((t1, t2).1 == (t1, t2).1 && (t1, t2).2 == (t1, t2).2) = true by simp] at this
    exact this
  have I2 : Hid (∀ w, Calls Tryd.prog 16 #[.string (strOf (secMake p (t1, t2))), .agg #[.int .u64 (u1 : Int), .int .u64 (u2 : Int)]] w fun e w' => e = .returned (.bool (t1 == u1 && t2 == u2)) ∧ Below w.heap.size w w') := Lib.hid fun w => by
    have := is_any (secMake p (t1, t2)) (u1, u2) w
    rwa [isB_make p (t1, t2) (u1, u2) hp ht1 ht2] at this
  have KA := secStr p (t1, t2) hp
  have KB := secStr p (u1, u2) hp
  have hEQ : strOf (secMake p (t1, t2)) = strOf (secMake p (u1, u2)) ↔ t1 = u1 ∧ t2 = u2 := by
    constructor
    · intro h
      have := (make_inj (t := (t1, t2)) (t' := (u1, u2)) hp ht1 ht2 hp hu1 hu2 (strOf_inj h)).2
      simpa using this
    · rintro ⟨rfl, rfl⟩; rfl
  have HEQ := Lib.hid hEQ
  clear hEQ ht1 ht2 hu1 hu2 hp0
  have hszp : (strOf p).size = p.length := rfl
  generalize strOf (secMake p (t1, t2)) = sa at *
  generalize strOf (secMake p (u1, u2)) = sb at *
  generalize strOf ([UInt8.ofNat p.length] ++ p ++ zeros (107 - p.length)) = hd at *
  generalize strOf p = sp at *
  generalize strOf p0 = sp0 at *
  generalize p.length = n at *
  have za := KA.size
  have zb := KB.size
  go_enter Tryd.func6, Tryd.ntmps6
  go_wp2_with fail
  (with_reducible refine (HA.out _).mono ?_)
  rintro e w1 ⟨rfl, hb⟩
  have hN := ((Blk.new w 24 #[.int .u64 (t1 : Int), .int .u64 (t2 : Int)]).alloc (.cells #[.int .u64 (u1 : Int), .int .u64 (u2 : Int)] 24)).bel hb
  have hM := (Blk.new (w.alloc (.cells #[.int .u64 (t1 : Int), .int .u64 (t2 : Int)] 24)) 24 #[.int .u64 (u1 : Int), .int .u64 (u2 : Int)]).bel hb
  rw [World.size_alloc] at hM
  have HB := Lib.hid ((((Bel.refl w).alloc (.cells #[.int .u64 (t1 : Int), .int .u64 (t2 : Int)] 24)).alloc (.cells #[.int .u64 (u1 : Int), .int .u64 (u2 : Int)] 24)).step hb)
  obtain ⟨c0, c1⟩ := hN.two
  have HN := Lib.hid hN
  have HM := Lib.hid hM
  clear hN hM hb
  go_wp2_with fail
  (with_reducible refine (SH.out _).mono ?_)
  rintro e w2 ⟨rfl, rfl⟩
  go_wp2_with fail
  (with_reducible refine (M1.out _).mono ?_)
  rintro e w2 ⟨rfl, hb⟩
  obtain ⟨d0, d1⟩ := (HM.out.bel hb).two
  have HN2 := Lib.hid (HN.out.bel hb)
  have HM2 := Lib.hid (HM.out.bel hb)
  have HB2 := Lib.hid (HB.out.step hb)
  clear c0 c1 HN HM HB hb
  go_wp2_with fail
  (with_reducible refine (M2.out _).mono ?_)
  rintro e w3 ⟨rfl, hb⟩
  have HN3 := Lib.hid (HN2.out.bel hb)
  have HM3 := Lib.hid (HM2.out.bel hb)
  have HB3 := Lib.hid (HB2.out.step hb)
  clear d0 d1 HN2 HM2 HB2 hb
  go_wp2_with fail
  (with_reducible refine (E1.out _).mono ?_)
  rintro e w4 ⟨rfl, hb⟩
  have HN4 := Lib.hid ((HN3.out.bel hb).alloc (.cells #[.int .u64 (t1 : Int), .int .u64 (t2 : Int)] 24))
  have HM4 := Lib.hid ((HM3.out.bel hb).alloc (.cells #[.int .u64 (t1 : Int), .int .u64 (t2 : Int)] 24))
  have HX4 := Lib.hid (Blk.new w4 24 #[.int .u64 (t1 : Int), .int .u64 (t2 : Int)])
  have HB4 := Lib.hid ((HB3.out.step hb).alloc (.cells #[.int .u64 (t1 : Int), .int .u64 (t2 : Int)] 24))
  clear HN3 HM3 HB3 hb
  go_wp2_with fail
  have hw5 : ∀ w5, w5 = w4.alloc (.cells #[.int .u64 (t1 : Int), .int .u64 (t2 : Int)] 24) → w5 = w4.alloc (.cells #[.int .u64 (t1 : Int), .int .u64 (t2 : Int)] 24) := fun _ h => h
  clear hw5
  change Code.wp _ _ _ _ (w4.alloc (.cells #[.int .u64 (t1 : Int), .int .u64 (t2 : Int)] 24))
  generalize w4.alloc (.cells #[.int .u64 (t1 : Int), .int .u64 (t2 : Int)] 24) = w5 at *
  obtain ⟨c0, c1⟩ := HN4.out.two
  obtain ⟨d0, d1⟩ := HM4.out.two
  obtain ⟨e0, e1⟩ := HX4.out.two
  have lN := HN4.out.lt
  have lM := HM4.out.lt
  have lX := HX4.out.lt
  have hn1 : (0 : Int) ≤ 1 + (n : Int) := by omega
  have hn2 : 1 + n ≤ 128 := by omega
  have hn3 : 1 + (n : Int) ≤ 128 := by omega
  have hn4 : (1 + (n : Int)).toNat = 1 + n := by omega
  have xa := KA.piece
  have ha := KA.head
  have hb := KB.head
  have hs0 : 0 < sa.size := by omega
  have fa := KA.first hs0
  generalize hc0 : sa[0]'hs0 = c at fa
  have HS := Lib.hid fun w' (h : Bel w5 w') => (show Bel w5 w' ∧ (w'.cell? ⟨w.heap.size, 0, none⟩ = some (.int .u64 (t1 : Int)) ∧ w'.cell? ⟨w.heap.size, 1, none⟩ = some (.int .u64 (t2 : Int))) ∧ (w'.cell? ⟨w.heap.size + 1, 0, none⟩ = some (.int .u64 (u1 : Int)) ∧ w'.cell? ⟨w.heap.size + 1, 1, none⟩ = some (.int .u64 (u2 : Int))) ∧ (w'.cell? ⟨w4.heap.size, 0, none⟩ = some (.int .u64 (t1 : Int)) ∧ w'.cell? ⟨w4.heap.size, 1, none⟩ = some (.int .u64 (t2 : Int))) from ⟨h, ⟨h.cells c0 lN, h.cells c1 lN⟩, ⟨h.cells d0 lM, h.cells d1 lM⟩, ⟨h.cells e0 lX, h.cells e1 lX⟩⟩)
  clear c0 c1 d0 d1 e0 e1
  have hn5 : (0 : Int) ≤ (n : Int) := by omega
  have hn6 : (1 : Int) ≤ 1 + (n : Int) := by omega
  have hwn : IntKind.i64.wrap (n : Int) = (n : Int) := IntWalk.i64_in _ (by omega)
  have hwm : IntKind.i64.wrap (1 + (n : Int)) = 1 + (n : Int) := IntWalk.i64_in _ (by omega)
  refine wp_region_ord [(0, false, true), (1, false, true), (2, false, true), (3, false, true), (4, false, true), (5, false, true), (6, false, true), (7, false, true), (8, false, true), (9, false, true), (10, false, true), (11, false, true), (12, false, true), (13, false, true), (14, false, true), (15, false, true), (16, false, true), (17, false, true), (18, false, true), (19, false, true), (20, false, true), (21, false, true), (22, false, true), (23, false, true), (24, false, true), (25, false, true), (26, false, true), (27, false, true), (28, false, true), (29, false, true), (30, false, true), (31, false, true), (32, false, true), (33, false, true), (34, false, true), (35, false, true), (36, false, true), (37, false, true), (38, false, true), (39, false, true), (40, false, true), (41, false, true), (42, false, true), (43, false, true), (44, false, true), (45, true, true), (46, false, true), (47, false, true), (48, false, true), (49, false, true), (51, false, true), (52, false, true), (53, false, true), (50, true, true), (54, false, true), (55, false, true), (56, false, true)]
    (fun w' => Bel w5 w' ∧ (w'.cell? ⟨w.heap.size, 0, none⟩ = some (.int .u64 (t1 : Int)) ∧ w'.cell? ⟨w.heap.size, 1, none⟩ = some (.int .u64 (t2 : Int))) ∧ (w'.cell? ⟨w.heap.size + 1, 0, none⟩ = some (.int .u64 (u1 : Int)) ∧ w'.cell? ⟨w.heap.size + 1, 1, none⟩ = some (.int .u64 (u2 : Int))) ∧ (w'.cell? ⟨w4.heap.size, 0, none⟩ = some (.int .u64 (t1 : Int)) ∧ w'.cell? ⟨w4.heap.size, 1, none⟩ = some (.int .u64 (t2 : Int)))) (by kernel_rfl) (by kernel_rfl) (by decide) (by kernel_rfl) ?_
  have hS := HS.out _ (Bel.start w5)
  have hcase : (t1 = u1 ∧ t2 = u2) ∨ t1 ≠ u1 ∨ (t1 = u1 ∧ t2 ≠ u2) := by omega
  rcases hcase with ⟨rfl, rfl⟩ | h | ⟨rfl, h⟩
  · obtain rfl := HEQ.out.2 ⟨rfl, rfl⟩
    repeat (first
        | (refine O_take _ _ rfl (by rfl) (fun _ _ _ h => h) (by assumption) (fun w hSw => by (simp only [List.getElem_toArray, List.getElem_cons_zero, List.getElem_cons_succ]; go_simp; first | done | with_reducible rfl)) ?_; simp only [Act.put, List.getElem_toArray, List.getElem_cons_zero, List.getElem_cons_succ, List.setIfInBounds_toArray, List.set_cons_zero, List.set_cons_succ])
        | (refine O_pass _ rfl (by rfl) (fun _ _ _ h => h) (by assumption) ?_; simp only [Act.put, List.getElem_toArray, List.getElem_cons_zero, List.getElem_cons_succ, List.setIfInBounds_toArray, List.set_cons_zero, List.set_cons_succ])
        | (refine O_idle _ rfl (by rfl) (by assumption) ?_; simp only [Act.put, List.getElem_toArray, List.getElem_cons_zero, List.getElem_cons_succ, List.setIfInBounds_toArray, List.set_cons_zero, List.set_cons_succ]))
    refine O_act _ rfl (by rfl) (fun K' hK => ?_)
    simp only [List.getElem_toArray, List.getElem_cons_zero, List.getElem_cons_succ]
    go_simp
    (with_reducible refine (I1.out _).mono ?_)
    rintro e w6 ⟨rfl, hb⟩
    have hS := HS.out _ (hS.1.step hb)
    refine hK _ _ hS ?_
    clear hK K' hb
    repeat (first
        | (refine O_take _ _ rfl (by rfl) (fun _ _ _ h => h) (by assumption) (fun w hSw => by (simp only [List.getElem_toArray, List.getElem_cons_zero, List.getElem_cons_succ]; go_simp; first | done | with_reducible rfl)) ?_; simp only [Act.put, List.getElem_toArray, List.getElem_cons_zero, List.getElem_cons_succ, List.setIfInBounds_toArray, List.set_cons_zero, List.set_cons_succ])
        | (refine O_pass _ rfl (by rfl) (fun _ _ _ h => h) (by assumption) ?_; simp only [Act.put, List.getElem_toArray, List.getElem_cons_zero, List.getElem_cons_succ, List.setIfInBounds_toArray, List.set_cons_zero, List.set_cons_succ])
        | (refine O_idle _ rfl (by rfl) (by assumption) ?_; simp only [Act.put, List.getElem_toArray, List.getElem_cons_zero, List.getElem_cons_succ, List.setIfInBounds_toArray, List.set_cons_zero, List.set_cons_succ]))
    refine O_act _ rfl (by rfl) (fun K' hK => ?_)
    simp only [List.getElem_toArray, List.getElem_cons_zero, List.getElem_cons_succ]
    go_simp
    (with_reducible refine (I1.out _).mono ?_)
    rintro e w7 ⟨rfl, hb⟩
    have hS := HS.out _ (hS.1.step hb)
    refine hK _ _ hS ?_
    clear hK K' hb
    repeat (first
        | (refine O_take _ _ rfl (by rfl) (fun _ _ _ h => h) (by assumption) (fun w hSw => by (simp only [List.getElem_toArray, List.getElem_cons_zero, List.getElem_cons_succ]; go_simp; first | done | with_reducible rfl)) ?_; simp only [Act.put, List.getElem_toArray, List.getElem_cons_zero, List.getElem_cons_succ, List.setIfInBounds_toArray, List.set_cons_zero, List.set_cons_succ])
        | (refine O_pass _ rfl (by rfl) (fun _ _ _ h => h) (by assumption) ?_; simp only [Act.put, List.getElem_toArray, List.getElem_cons_zero, List.getElem_cons_succ, List.setIfInBounds_toArray, List.set_cons_zero, List.set_cons_succ])
        | (refine O_idle _ rfl (by rfl) (by assumption) ?_; simp only [Act.put, List.getElem_toArray, List.getElem_cons_zero, List.getElem_cons_succ, List.setIfInBounds_toArray, List.set_cons_zero, List.set_cons_succ]))
    refine O_nil ?_
    have HB5 := Lib.hid (HB4.out.step hS.1)
    clear hS
    (try simp only [NoPanic])
    go_wp2_with fail
    go_ret
    exact ⟨rfl, HB5.out⟩
  · have hne : ¬ sa = sb := fun hh => h (HEQ.out.1 hh).1
    have hne2 : ¬ sa.toList = sb.toList := fun hh => hne (by rw [ByteArray.toList_eq, ByteArray.toList_eq] at hh; exact ByteArray.ext (by simpa using hh))
    have hne3 : (sa.toList == sb.toList) = false := by rw [beq_eq_false_iff_ne]; exact hne2
    have hni : ¬ ((t1 : Int) = (u1 : Int)) := by omega
    have I3 : Hid (∀ w, Calls Tryd.prog 16 #[.string sa, .agg #[.int .u64 (u1 : Int), .int .u64 (u2 : Int)]] w fun e w' => e = .returned (.bool false) ∧ Below w.heap.size w w') := Lib.hid fun w => by
      have := I2.out w
      rwa [show (t1 == u1 && t2 == u2) = false by simp [h]] at this
    repeat (first
        | (refine O_take _ _ rfl (by rfl) (fun _ _ _ h => h) (by assumption) (fun w hSw => by (simp only [List.getElem_toArray, List.getElem_cons_zero, List.getElem_cons_succ]; go_simp; first | done | with_reducible rfl)) ?_; simp only [Act.put, List.getElem_toArray, List.getElem_cons_zero, List.getElem_cons_succ, List.setIfInBounds_toArray, List.set_cons_zero, List.set_cons_succ])
        | (refine O_pass _ rfl (by rfl) (fun _ _ _ h => h) (by assumption) ?_; simp only [Act.put, List.getElem_toArray, List.getElem_cons_zero, List.getElem_cons_succ, List.setIfInBounds_toArray, List.set_cons_zero, List.set_cons_succ])
        | (refine O_idle _ rfl (by rfl) (by assumption) ?_; simp only [Act.put, List.getElem_toArray, List.getElem_cons_zero, List.getElem_cons_succ, List.setIfInBounds_toArray, List.set_cons_zero, List.set_cons_succ]))
    refine O_act _ rfl (by rfl) (fun K' hK => ?_)
    simp only [List.getElem_toArray, List.getElem_cons_zero, List.getElem_cons_succ]
    go_simp
    (with_reducible refine (I1.out _).mono ?_)
    rintro e w6 ⟨rfl, hb⟩
    have hS := HS.out _ (hS.1.step hb)
    refine hK _ _ hS ?_
    clear hK K' hb
    repeat (first
        | (refine O_take _ _ rfl (by rfl) (fun _ _ _ h => h) (by assumption) (fun w hSw => by (simp only [List.getElem_toArray, List.getElem_cons_zero, List.getElem_cons_succ]; go_simp; first | done | with_reducible rfl)) ?_; simp only [Act.put, List.getElem_toArray, List.getElem_cons_zero, List.getElem_cons_succ, List.setIfInBounds_toArray, List.set_cons_zero, List.set_cons_succ])
        | (refine O_pass _ rfl (by rfl) (fun _ _ _ h => h) (by assumption) ?_; simp only [Act.put, List.getElem_toArray, List.getElem_cons_zero, List.getElem_cons_succ, List.setIfInBounds_toArray, List.set_cons_zero, List.set_cons_succ])
        | (refine O_idle _ rfl (by rfl) (by assumption) ?_; simp only [Act.put, List.getElem_toArray, List.getElem_cons_zero, List.getElem_cons_succ, List.setIfInBounds_toArray, List.set_cons_zero, List.set_cons_succ]))
    refine O_act _ rfl (by rfl) (fun K' hK => ?_)
    simp only [List.getElem_toArray, List.getElem_cons_zero, List.getElem_cons_succ]
    go_simp
    (with_reducible refine (I3.out _).mono ?_)
    rintro e w7 ⟨rfl, hb⟩
    have hS := HS.out _ (hS.1.step hb)
    refine hK _ _ hS ?_
    clear hK K' hb
    repeat (first
        | (refine O_take _ _ rfl (by rfl) (fun _ _ _ h => h) (by assumption) (fun w hSw => by (simp only [List.getElem_toArray, List.getElem_cons_zero, List.getElem_cons_succ]; go_simp; first | done | with_reducible rfl)) ?_; simp only [Act.put, List.getElem_toArray, List.getElem_cons_zero, List.getElem_cons_succ, List.setIfInBounds_toArray, List.set_cons_zero, List.set_cons_succ])
        | (refine O_pass _ rfl (by rfl) (fun _ _ _ h => h) (by assumption) ?_; simp only [Act.put, List.getElem_toArray, List.getElem_cons_zero, List.getElem_cons_succ, List.setIfInBounds_toArray, List.set_cons_zero, List.set_cons_succ])
        | (refine O_idle _ rfl (by rfl) (by assumption) ?_; simp only [Act.put, List.getElem_toArray, List.getElem_cons_zero, List.getElem_cons_succ, List.setIfInBounds_toArray, List.set_cons_zero, List.set_cons_succ]))
    refine O_nil ?_
    have HB5 := Lib.hid (HB4.out.step hS.1)
    clear hS
    (try simp only [NoPanic])
    go_wp2_with fail
    go_ret
    exact ⟨rfl, HB5.out⟩
  · have hne : ¬ sa = sb := fun hh => h (HEQ.out.1 hh).2
    have hne2 : ¬ sa.toList = sb.toList := fun hh => hne (by rw [ByteArray.toList_eq, ByteArray.toList_eq] at hh; exact ByteArray.ext (by simpa using hh))
    have hne3 : (sa.toList == sb.toList) = false := by rw [beq_eq_false_iff_ne]; exact hne2
    have hni : ¬ ((t2 : Int) = (u2 : Int)) := by omega
    have I3 : Hid (∀ w, Calls Tryd.prog 16 #[.string sa, .agg #[.int .u64 (t1 : Int), .int .u64 (u2 : Int)]] w fun e w' => e = .returned (.bool false) ∧ Below w.heap.size w w') := Lib.hid fun w => by
      have := I2.out w
      rwa [show (t1 == t1 && t2 == u2) = false by simp [h]] at this
    repeat (first
        | (refine O_take _ _ rfl (by rfl) (fun _ _ _ h => h) (by assumption) (fun w hSw => by (simp only [List.getElem_toArray, List.getElem_cons_zero, List.getElem_cons_succ]; go_simp; first | done | with_reducible rfl)) ?_; simp only [Act.put, List.getElem_toArray, List.getElem_cons_zero, List.getElem_cons_succ, List.setIfInBounds_toArray, List.set_cons_zero, List.set_cons_succ])
        | (refine O_pass _ rfl (by rfl) (fun _ _ _ h => h) (by assumption) ?_; simp only [Act.put, List.getElem_toArray, List.getElem_cons_zero, List.getElem_cons_succ, List.setIfInBounds_toArray, List.set_cons_zero, List.set_cons_succ])
        | (refine O_idle _ rfl (by rfl) (by assumption) ?_; simp only [Act.put, List.getElem_toArray, List.getElem_cons_zero, List.getElem_cons_succ, List.setIfInBounds_toArray, List.set_cons_zero, List.set_cons_succ]))
    refine O_act _ rfl (by rfl) (fun K' hK => ?_)
    simp only [List.getElem_toArray, List.getElem_cons_zero, List.getElem_cons_succ]
    go_simp
    (with_reducible refine (I1.out _).mono ?_)
    rintro e w6 ⟨rfl, hb⟩
    have hS := HS.out _ (hS.1.step hb)
    refine hK _ _ hS ?_
    clear hK K' hb
    repeat (first
        | (refine O_take _ _ rfl (by rfl) (fun _ _ _ h => h) (by assumption) (fun w hSw => by (simp only [List.getElem_toArray, List.getElem_cons_zero, List.getElem_cons_succ]; go_simp; first | done | with_reducible rfl)) ?_; simp only [Act.put, List.getElem_toArray, List.getElem_cons_zero, List.getElem_cons_succ, List.setIfInBounds_toArray, List.set_cons_zero, List.set_cons_succ])
        | (refine O_pass _ rfl (by rfl) (fun _ _ _ h => h) (by assumption) ?_; simp only [Act.put, List.getElem_toArray, List.getElem_cons_zero, List.getElem_cons_succ, List.setIfInBounds_toArray, List.set_cons_zero, List.set_cons_succ])
        | (refine O_idle _ rfl (by rfl) (by assumption) ?_; simp only [Act.put, List.getElem_toArray, List.getElem_cons_zero, List.getElem_cons_succ, List.setIfInBounds_toArray, List.set_cons_zero, List.set_cons_succ]))
    refine O_act _ rfl (by rfl) (fun K' hK => ?_)
    simp only [List.getElem_toArray, List.getElem_cons_zero, List.getElem_cons_succ]
    go_simp
    (with_reducible refine (I3.out _).mono ?_)
    rintro e w7 ⟨rfl, hb⟩
    have hS := HS.out _ (hS.1.step hb)
    refine hK _ _ hS ?_
    clear hK K' hb
    repeat (first
        | (refine O_take _ _ rfl (by rfl) (fun _ _ _ h => h) (by assumption) (fun w hSw => by (simp only [List.getElem_toArray, List.getElem_cons_zero, List.getElem_cons_succ]; go_simp; first | done | with_reducible rfl)) ?_; simp only [Act.put, List.getElem_toArray, List.getElem_cons_zero, List.getElem_cons_succ, List.setIfInBounds_toArray, List.set_cons_zero, List.set_cons_succ])
        | (refine O_pass _ rfl (by rfl) (fun _ _ _ h => h) (by assumption) ?_; simp only [Act.put, List.getElem_toArray, List.getElem_cons_zero, List.getElem_cons_succ, List.setIfInBounds_toArray, List.set_cons_zero, List.set_cons_succ])
        | (refine O_idle _ rfl (by rfl) (by assumption) ?_; simp only [Act.put, List.getElem_toArray, List.getElem_cons_zero, List.getElem_cons_succ, List.setIfInBounds_toArray, List.set_cons_zero, List.set_cons_succ]))
    refine O_nil ?_
    have HB5 := Lib.hid (HB4.out.step hS.1)
    clear hS
    (try simp only [NoPanic])
    go_wp2_with fail
    go_ret
    exact ⟨rfl, HB5.out⟩
namespace SectorEnds
theorem params : ∀ t ∈ Tryd.f6.params.toList, Tryd.prog.readableRec t = true ∧ t < Tryd.prog.types.size := by
  have h : (Tryd.f6.params.toList.all fun t => Tryd.prog.readableRec t && decide (t < Tryd.prog.types.size)) = true := by kernel_rfl
  intro t ht
  have := List.all_eq_true.1 h t ht
  simpa using this
set_option maxRecDepth 100000 in
theorem lifted (os : Os) (started : os.Started) (H : Type) (enc : TypeId × Value → H) :
    ReturnsInHanded {} Tryd.checked os 6 .any (fun w args => (Rows.sectorEndsSpec.pre enc Tryd.prog Tryd.f6 [] false w args ∧ laidMetH Tryd.prog laidS w) ∧ sizedMet enc Tryd.prog Tryd.f6 (OpenSpec.ofChange Rows.sectorEndsSpec) false w args) (Rows.sectorEndsSpec.post enc Tryd.prog Tryd.f6 false true false false) := by
  refine returnsInHanded_of_change_and (C := Tryd.checked) (X := fun w _ => laidMetH Tryd.prog laidS w) (fun _ _ _ hh h => h.of_heap hh) Tryd.own started (by kernel_rfl) Tryd.func6
    (ChangeSpec.witness_shaped (enc := enc) (C := Tryd.checked) (os := os) (X := fun w _ => laidMetH Tryd.prog laidS w) false (World.laidAll Tryd.prog os laidS) #[.string ⟨#[]⟩, .agg #[.int .u64 0, .int .u64 0], .agg #[.int .u64 0, .int .u64 0]] 8 (World.laidAll_os _ _ _)
      (World.shaped_of_ZipB (by kernel_rfl) (by kernel_rfl)) (by kernel_rfl) (by kernel_rfl) (by kernel_rfl) (laid_met os _)) ?_
  intro W base args ds gs before hval0 hW _ _ _ _
  have hval : ∀ (j : Nat) t v, Tryd.f6.params[j]? = some t → args[j]? = some v → Value.okWide Tryd.prog W .any base t v := hval0
  have hW' := hW
  obtain ⟨p, q, hA0, hV, rfl, hfz, hnd⟩ := hW
  have hA : DataW.TrodAll enc Tryd.prog W 0 (fun _ => true) true Tryd.f6.params.toList args.toList ds p := hA0
  rw [Tryd.params6] at hA hval
  obtain ⟨v0, v1, v2, d0, d1, d2, p0, p1, p2, rfl, rfl, rfl, h0, h1, h2⟩ := trodAll_three hA
  obtain ⟨rfl, rfl⟩ := trodVars_none hV
  obtain ⟨s0, rfl, _, _, hs0⟩ := open_string Tryd.underlying9 (hval 0 9 v0 rfl rfl) h0
  obtain ⟨a1, a2, rfl, ha1, ha2⟩ := open_tag (hval 1 24 v1 rfl rfl) h1
  obtain ⟨b1, b2, rfl, hb1, hb2⟩ := open_tag (hval 2 24 v2 rfl rfl) h2
  have hsL : s0.data.toList.length ≤ 9223372036854775807 := by unfold maxLen at hs0; exact hs0
  obtain ⟨l0, rfl⟩ : ∃ l, s0 = strOf l := ⟨s0.data.toList, by unfold strOf; simp⟩
  refine (ends_walk l0 (by simpa [strOf] using hsL) a1 a2 b1 b2 ha1 ha2 hb1 hb2 W).mono fun e W' ⟨he, hb⟩ => ?_
  subst he
  exact ⟨_, rfl, law_end Tryd.laidOut params rfl Tryd.underlying4 rfl hW' rfl rfl rfl hb⟩
theorem holds : Rows.SectorEndsSaid :=
  OpenClaim.holds_of_wide 6 Tryd.f6 rfl rfl rfl rfl rfl rfl rfl ⟨rfl, rfl, rfl, rfl, rfl⟩ rfl rfl rfl rfl rfl (by kernel_rfl) Tryd.func6 (by kernel_rfl)
    (of_decide_eq_true (by kernel_rfl)) (by unfold Func.isWrapper; first | (rw [if_pos (by decide +kernel)]; kernel_rfl) | (rw [if_neg (by decide +kernel)]; exact ⟨rfl, rfl⟩))
    (fun os started H enc _ => lifted os started H enc)
theorem card_holds : Rows.SectorEndsCardSaid :=
  Claim7.holds_tied_plain_at .later [] [.data, .pinned] true Rows.sectorEndsCard.stood.harness false holds (fun _ h => by cases h) (by kernel_rfl) (fun _ h => by cases h) sectorEnds_row_tie rfl ⟨rfl, rfl⟩ (by kernel_rfl) rfl
    (fun f fn hf hfn => by
      obtain rfl : f = 6 := Option.some.inj ((show Tryd.prog.funcNamed "vendue/venduelaw03.SectorEnds" = some 6 by kernel_rfl).symm.trans hf) |>.symm
      obtain rfl : fn = Tryd.f6 := (Option.some.inj (Tryd.func6.symm.trans hfn)).symm
      exact ⟨by kernel_rfl, fun j t ht => by
        have hm : t ∈ Tryd.f6.params := Array.mem_of_getElem? ht
        have hall : (Tryd.f6.params.toList.all fun u => !Tryd.prog.wantsStandIn u) = true := by kernel_rfl
        exact (show Tryd.prog.wantsStandIn t = false by simpa using List.all_eq_true.1 hall t (by simpa using hm))⟩)
    (by kernel_rfl)
end SectorEnds
end Go.Proofs.YtmcnoekpblkpdaaDoor
