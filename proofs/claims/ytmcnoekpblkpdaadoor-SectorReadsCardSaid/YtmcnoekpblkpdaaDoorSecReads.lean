/- SectorReads: whatever bytes, tag and turns come in, any sector is read as the document says: the law returns true, and leaves its arguments as they were. No condition beside the row's own. -/
import Derived.Test.YtmcnoekpblkpdaaDoorSecBack
import Derived.Test.YtmcnoekpblkpdaaDoorSect10
namespace Go.Proofs.YtmcnoekpblkpdaaDoor
open Go.ChangeShapes Go.WideShapes Go.ChangeAt Go.RowKit Go.ChangeMaps

theorem and3_of (x : Int) : ∃ n : Nat, n < 4 ∧ bits .and .i64 x 3 = (n : Int) := by
  refine ⟨((BitVec.ofInt 64 x) &&& (BitVec.ofInt 64 3)).toNat, ?_, ?_⟩
  · rw [BitVec.toNat_and]
    have : (BitVec.ofInt 64 3).toNat = 3 := by decide
    rw [this]
    exact Nat.lt_of_le_of_lt Nat.and_le_right (by decide)
  · have h : ((BitVec.ofInt 64 x) &&& (BitVec.ofInt 64 3)).toNat ≤ 3 := by
      rw [BitVec.toNat_and]
      have : (BitVec.ofInt 64 3).toNat = 3 := by decide
      rw [this]
      exact Nat.and_le_right
    show IntKind.i64.wrap ((BitVec.ofInt 64 x &&& BitVec.ofInt 64 3).toNat : Int) = ((BitVec.ofInt 64 x &&& BitVec.ofInt 64 3).toNat : Int)
    generalize (BitVec.ofInt 64 x &&& BitVec.ofInt 64 3).toNat = m at *
    rw [IntKind.wrap_i64]; omega
theorem tmod_128 (n : Int) : (n.tmod 128 + 128) % 128 = (((n % 128).toNat : Nat) : Int) ∧ (n % 128).toNat ≤ 127 := by
  have h1 : (n.tmod 128 + 128) % 128 = n % 128 := by
    rw [Int.tmod_eq_emod, Int.add_emod_right]
    split
    · simp
    · rw [Int.sub_emod, Int.emod_emod]
      have : ((128 : Int).natAbs : Int) = 128 := rfl
      rw [this, Int.emod_self, Int.sub_zero, Int.emod_emod]
  omega
theorem Blk.four {w : World} {g : Nat} {t : TypeId} {x y z u : Value} (h : Blk w g t #[x, y, z, u]) : w.cell? ⟨g, 0, none⟩ = some x ∧ w.cell? ⟨g, 1, none⟩ = some y ∧ w.cell? ⟨g, 2, none⟩ = some z ∧ w.cell? ⟨g, 3, none⟩ = some u := ⟨h.cell 0, h.cell 1, h.cell 2, h.cell 3⟩
theorem Bel.keep {w w' : World} {p : Addr} {u : Value} (hb : Bel w w') (h : w.cell? p = some u) : w'.cell? p = some u := hb.cells h (block_lt_of_cell h)
theorem open_three {H : Type} {enc : TypeId × Value → H} {P : Program} {k e : TypeId} {q : IntKind} {W : World} {base : Nat} {sp : Nat → Bool} {held : Bool} (A : WideMaps.ArrKey P k e 3) (he : P.underlying e = some (.int q)) {r : Reach} {b0 : Nat} {v : Value} {d : DataW H} {ps : List MemPlace} (hval : Value.okWide P W r b0 k v) (hd : DataW.Trod enc P W base sp held k v d ps) :
    ∃ a b c : Int, v = .agg #[.int q a, .int q b, .int q c] := by
  obtain ⟨c0, c1, c2, rfl⟩ : ∃ c0 c1 c2, v = .agg #[c0, c1, c2] := by
    simp only [Value.okWide, A.hu] at hval
    obtain ⟨cs, h1, h2, _⟩ := hval
    rw [A.size] at h2
    obtain ⟨l⟩ := cs
    match l, h2 with
    | [c0, c1, c2], _ => exact ⟨c0, c1, c2, h1⟩
  obtain ⟨fuel, hf⟩ := hd
  cases fuel with
  | zero => simp [DataW.trod] at hf
  | succ n =>
    rw [DataW.trod_step] at hf
    unfold DataW.trodStep at hf
    simp only [A.hu, Value.cells] at hf
    rw [if_pos (by rw [A.size]; rfl)] at hf
    simp only [Option.map_eq_some_iff] at hf
    obtain ⟨xs, hx, e1⟩ := hf
    rw [show List.range 3 = [0, 1, 2] from rfl, List.mapM_cons, List.mapM_cons, List.mapM_cons, List.mapM_nil] at hx
    simp only [bind, Option.bind_eq_some_iff, pure, Option.some.injEq, A.one] at hx
    obtain ⟨y0, h0, _, ⟨y1, h1, _, ⟨y2, h2, _, rfl, rfl⟩, rfl⟩, rfl⟩ := hx
    obtain ⟨a, ea, rfl, wa⟩ := DataW.trod_int he h0
    obtain ⟨b, eb, rfl, wb⟩ := DataW.trod_int he h1
    obtain ⟨c, ec, rfl, wc⟩ := DataW.trod_int he h2
    simp at ea eb ec
    subst ea; subst eb; subst ec
    exact ⟨a, b, c, rfl⟩
set_option maxHeartbeats 400000 in
theorem agree (l : List UInt8) (t1 t2 : Nat) : ∃ (x : ByteArray) (e1 e2 u1 u2 : Nat) (is eb ib : Bool),
    (∀ w, Calls Tryd.prog 12 #[.string (strOf l)] w fun e w' => e = .returned (.tuple #[.string x, .agg #[.int .u64 (e1 : Int), .int .u64 (e2 : Int)], .bool is]) ∧ Below w.heap.size w w') ∧
    (∀ w, Calls Tryd.prog 13 #[.string (strOf l)] w fun e w' => e = .returned (.agg #[.string x, .int .u64 (e1 : Int), .int .u64 (e2 : Int), .bool is]) ∧ Below w.heap.size w w') ∧
    (∀ w, Calls Tryd.prog 14 #[.string (strOf l)] w fun e w' => e = .returned (.tuple #[.agg #[.int .u64 (u1 : Int), .int .u64 (u2 : Int)], .bool eb]) ∧ Below w.heap.size w w') ∧
    (∀ w, Calls Tryd.prog 15 #[.string (strOf l)] w fun e w' => e = .returned (.tuple #[.agg #[.int .u64 (u1 : Int), .int .u64 (u2 : Int)], .bool eb]) ∧ Below w.heap.size w w') ∧
    (∀ w, Calls Tryd.prog 16 #[.string (strOf l), .agg #[.int .u64 (t1 : Int), .int .u64 (t2 : Int)]] w fun e w' => e = .returned (.bool ib) ∧ Below w.heap.size w w') ∧
    (∀ w, Calls Tryd.prog 17 #[.string (strOf l), .agg #[.int .u64 (t1 : Int), .int .u64 (t2 : Int)]] w fun e w' => e = .returned (.bool ib) ∧ Below w.heap.size w w') := by
  have hr : ∃ (x : ByteArray) (e1 e2 : Nat) (is : Bool), readV (secRead l) = .tuple #[.string x, .agg #[.int .u64 (e1 : Int), .int .u64 (e2 : Int)], .bool is] ∧ (gotL (secRead l)).toArray = #[.string x, .int .u64 (e1 : Int), .int .u64 (e2 : Int), .bool is] := by
    cases secRead l with
    | none => exact ⟨⟨#[]⟩, 0, 0, false, rfl, rfl⟩
    | some g => exact ⟨strOf g.1, g.2.1, g.2.2, true, rfl, rfl⟩
  obtain ⟨x, e1, e2, is, h1, h2⟩ := hr
  have he : ∃ (u1 u2 : Nat) (eb : Bool), (∀ w, Calls Tryd.prog 14 #[.string (strOf l)] w fun e w' => e = .returned (.tuple #[.agg #[.int .u64 (u1 : Int), .int .u64 (u2 : Int)], .bool eb]) ∧ Below w.heap.size w w') ∧
      (∀ w, Calls Tryd.prog 15 #[.string (strOf l)] w fun e w' => e = .returned (.tuple #[.agg #[.int .u64 (u1 : Int), .int .u64 (u2 : Int)], .bool eb]) ∧ Below w.heap.size w w') := by
    by_cases h : l.length = 128
    · exact ⟨(endT l).1, (endT l).2, true, fun w => end_ok l h w, fun w => rend_ok l h w⟩
    · exact ⟨0, 0, false, fun w => end_bad l h w, fun w => rend_bad l h w⟩
  obtain ⟨u1, u2, eb, h3, h4⟩ := he
  refine ⟨x, e1, e2, u1, u2, is, eb, isB l (t1, t2), fun w => ?_, fun w => ?_, h3, h4, fun w => is_any l (t1, t2) w, fun w => ris_any l (t1, t2) w⟩
  · have := read_any l w
    rwa [h1] at this
  · have := rread_any l w
    rwa [h2] at this
set_option maxHeartbeats 2000000 in
set_option maxRecDepth 100000 in
theorem reads_walk (p0 : List UInt8) (hp0 : p0.length ≤ 9223372036854775807) (t1 t2 : Nat) (ht1 : t1 < 18446744073709551616) (ht2 : t2 < 18446744073709551616) (q0 q1 q2 : Int) (w : World) :
    Calls Tryd.prog 3 #[.string (strOf p0), .agg #[.int .u64 (t1 : Int), .int .u64 (t2 : Int)], .agg #[.int .i64 q0, .int .i64 q1, .int .i64 q2]] w fun e w' => e = .returned (.bool true) ∧ Below w.heap.size w w' := by
  have HA := Lib.hid fun w => awake_any w
  have AG : Hid (∀ l : List UInt8, ∃ (x : ByteArray) (e1 e2 u1 u2 : Nat) (is eb ib : Bool),
    (∀ w, Calls Tryd.prog 12 #[.string (strOf l)] w fun e w' => e = .returned (.tuple #[.string x, .agg #[.int .u64 (e1 : Int), .int .u64 (e2 : Int)], .bool is]) ∧ Below w.heap.size w w') ∧
    (∀ w, Calls Tryd.prog 13 #[.string (strOf l)] w fun e w' => e = .returned (.agg #[.string x, .int .u64 (e1 : Int), .int .u64 (e2 : Int), .bool is]) ∧ Below w.heap.size w w') ∧
    (∀ w, Calls Tryd.prog 14 #[.string (strOf l)] w fun e w' => e = .returned (.tuple #[.agg #[.int .u64 (u1 : Int), .int .u64 (u2 : Int)], .bool eb]) ∧ Below w.heap.size w w') ∧
    (∀ w, Calls Tryd.prog 15 #[.string (strOf l)] w fun e w' => e = .returned (.tuple #[.agg #[.int .u64 (u1 : Int), .int .u64 (u2 : Int)], .bool eb]) ∧ Below w.heap.size w w') ∧
    (∀ w, Calls Tryd.prog 16 #[.string (strOf l), .agg #[.int .u64 (t1 : Int), .int .u64 (t2 : Int)]] w fun e w' => e = .returned (.bool ib) ∧ Below w.heap.size w w') ∧
    (∀ w, Calls Tryd.prog 17 #[.string (strOf l), .agg #[.int .u64 (t1 : Int), .int .u64 (t2 : Int)]] w fun e w' => e = .returned (.bool ib) ∧ Below w.heap.size w w')) := Lib.hid fun l => agree l t1 t2
  have SH : Hid (∀ w, Calls Tryd.prog 10 #[.string (strOf p0), .int .i64 130] w fun e w' => e = .returned (.string (strOf (p0.take 130))) ∧ w = w') := Lib.hid fun w => short_any p0 130 w hp0
  have SH7 : Hid (∀ w, Calls Tryd.prog 10 #[.string (strOf p0), .int .i64 107] w fun e w' => e = .returned (.string (strOf (p0.take 107))) ∧ w = w') := Lib.hid fun w => short_any p0 107 w hp0
  have hp : (p0.take 107).length ≤ 107 := List.length_take_le _ _
  generalize p0.take 107 = p at *
  generalize p0.take 130 = l0 at *
  have M1 : Hid (∀ w, Calls Tryd.prog 11 #[.string (strOf p), .agg #[.int .u64 (t1 : Int), .int .u64 (t2 : Int)]] w fun e w' => e = .returned (.tuple #[.string (strOf (secMake p (t1, t2))), .int .i64 0]) ∧ Below w.heap.size w w') := Lib.hid fun w => rmake_any p hp (t1, t2) ht1 ht2 w
  obtain ⟨r, hr4, hr⟩ := and3_of q0
  obtain ⟨hk1, hk2⟩ := tmod_128 q1
  have HK := Lib.hid hk1
  have b1 := Int.tmod_lt_of_pos q1 (show (0 : Int) < 128 by decide)
  have b2 := Int.lt_tmod_of_pos q1 (show (0 : Int) < 128 by decide)
  clear hk1
  generalize (q1 % 128).toNat = k at *
  have hL := secMake_length p (t1, t2) hp
  have hk3 : k < 128 := by omega
  generalize secMake p (t1, t2) = sm at *
  have hkL : k < sm.length := by omega
  have XB := Lib.hid (xor_byte sm[k] q2)
  obtain ⟨c, hc⟩ : ∃ c, sm[k] ^^^ UInt8.ofNat (q2 % 256).toNat = c := ⟨_, rfl⟩
  rw [hc] at XB
  have hq0 := Int.emod_nonneg q2 (show (256 : Int) ≠ 0 by decide)
  have hq1 := Int.emod_lt_of_pos q2 (show (0 : Int) < 256 by decide)
  have hwq : IntKind.u8.wrap q2 = q2 % 256 := by simp [IntKind.wrap, IntKind.bits, IntKind.signed]
  have CV : Hid (∀ w : World, (convert 9 31 (.string (strOf sm))).run Tryd.prog w = .ok (.slice (some ⟨w.heap.size, 0, none⟩) 128 (grownCap w 128 0 5)) (Lib.bytesWorld w 5 (strOf sm))) := Lib.hid fun w => by
    have := Lib.run_convert_string_bytes (P := Tryd.prog) w 9 31 5 (strOf sm) Tryd.underlying9 Tryd.underlying31 Tryd.underlying5
    rw [strOf_size, hL] at this
    exact this
  have BN := Lib.hid fun w j hj => bytes_new w sm j hj
  have BB := Lib.hid fun w => bytes_bel w sm
  have CS : Hid (∀ (w W : World) cap, (∀ j (hj : j < sm.length), W.cell? ⟨w.heap.size, j, none⟩ = some (.int .u8 (sm[j].toNat : Int))) →
      (∃ v, W.cell? ⟨w.heap.size, k, none⟩ = some v) → (convert 31 9 (.slice (some ⟨w.heap.size, 0, none⟩) 128 cap)).run Tryd.prog (W.setCell ⟨w.heap.size, k, none⟩ (.int .u8 (c.toNat : Int))) = .ok (.string (strOf (sm.set k c))) (W.setCell ⟨w.heap.size, k, none⟩ (.int .u8 (c.toNat : Int)))) := Lib.hid fun w W cap hcell hv => by
    refine conv_set _ _ _ cap (fun j hj => ?_) (by simpa using hL)
    have hj' : j < sm.length := by simpa using hj
    rw [List.getElem_set]
    split
    · rename_i hjk; subst hjk
      obtain ⟨v, hv⟩ := hv
      exact World.cell?_setCell_same (h := hv) ..
    · rename_i hjk
      rw [World.cell?_setCell_other (h := fun e => hjk (by injection e)) ..]
      exact hcell j hj'
  have hck : sm[k].toNat < 256 := UInt8.toNat_lt _
  have BNk := Lib.hid fun w => BN.out w k hkL
  have AG0 := Lib.hid (AG.out l0)
  have AG1 := Lib.hid (AG.out (sm.set k c))
  have AG2 := Lib.hid (AG.out ((sm.set k c).take k))
  have hex : (strOf (sm.set k c)).extract 0 k = strOf ((sm.set k c).take k) := by rw [extract_strOf]; simp
  have zc : (strOf (sm.set k c)).size = 128 := by rw [strOf_size]; simpa using hL
  have za : (strOf sm).size = 128 := hL
  clear hp hp0 ht1 ht2 hc hk2 AG
  generalize strOf ((sm.set k c).take k) = s2 at *
  generalize strOf (sm.set k c) = sc at *
  generalize sm[k] = ck at *
  generalize hSA : strOf sm = sa at *
  have HSA := Lib.hid hSA
  clear hSA hL hkL
  generalize strOf l0 = s0 at *
  generalize strOf p = sp at *
  generalize strOf p0 = sp0 at *
  have HEX := Lib.hid hex
  clear hex
  go_enter Tryd.func3, Tryd.ntmps3
  go_wp2_with fail
  (with_reducible refine (HA.out _).mono ?_)
  rintro e w1 ⟨rfl, hb⟩
  have hN := ((Blk.new w 24 #[.int .u64 (t1 : Int), .int .u64 (t2 : Int)]).alloc (.cells #[.int .i64 q0, .int .i64 q1, .int .i64 q2] 25)).bel hb
  have hM := (Blk.new (w.alloc (.cells #[.int .u64 (t1 : Int), .int .u64 (t2 : Int)] 24)) 25 #[.int .i64 q0, .int .i64 q1, .int .i64 q2]).bel hb
  rw [World.size_alloc] at hM
  have HB0 := Lib.hid ((((Bel.refl w).alloc (.cells #[.int .u64 (t1 : Int), .int .u64 (t2 : Int)] 24)).alloc (.cells #[.int .i64 q0, .int .i64 q1, .int .i64 q2] 25)).step hb)
  have m0 : w1.cell? ⟨w.heap.size + 1, 0, none⟩ = some (.int .i64 q0) := hM.cell 0
  have HN0 := Lib.hid hN
  have HM0 := Lib.hid hM
  clear hN hM hb
  go_wp2_with fail
  (with_reducible refine (SH.out _).mono ?_)
  rintro e w1 ⟨rfl, rfl⟩
  by_cases hz : r = 0
  focus
    subst hz
    have hr : bits .and .i64 q0 3 = 0 := by simpa using hr
    have AGL := AG0.out
    clear AG0 AG1 AG2 CS CV BN BNk BB XB
    obtain ⟨x, e1, e2, u1, u2, is, eb, ib, R1, R2, E1, E2, I1, I2⟩ := AGL
    have R1 := Lib.hid R1
    have R2 := Lib.hid R2
    have E1 := Lib.hid E1
    have E2 := Lib.hid E2
    have I1 := Lib.hid I1
    have I2 := Lib.hid I2
    go_wp2_with fail
    (with_reducible refine (R1.out _).mono ?_)
    rintro e wa ⟨rfl, hb⟩
    have HBa := Lib.hid ((HB0.out.step hb).alloc (.cells #[.int .u64 (e1 : Int), .int .u64 (e2 : Int)] 24))
    have HNa := Lib.hid ((HN0.out.bel hb).alloc (.cells #[.int .u64 (e1 : Int), .int .u64 (e2 : Int)] 24))
    have HXa := Lib.hid (Blk.new wa 24 #[.int .u64 (e1 : Int), .int .u64 (e2 : Int)])
    clear HB0 HN0 hb R1
    go_wp2_with fail
    (with_reducible refine (R2.out _).mono ?_)
    rintro e wb ⟨rfl, hb⟩
    have HBb := Lib.hid ((HBa.out.step hb).alloc (.cells #[.string x, .int .u64 (e1 : Int), .int .u64 (e2 : Int), .bool is] 35))
    have HNb := Lib.hid ((HNa.out.bel hb).alloc (.cells #[.string x, .int .u64 (e1 : Int), .int .u64 (e2 : Int), .bool is] 35))
    have HXb := Lib.hid ((HXa.out.bel hb).alloc (.cells #[.string x, .int .u64 (e1 : Int), .int .u64 (e2 : Int), .bool is] 35))
    have HGb := Lib.hid (Blk.new wb 35 #[.string x, .int .u64 (e1 : Int), .int .u64 (e2 : Int), .bool is])
    clear HBa HNa HXa hb R2
    go_wp2_with fail
    (with_reducible refine (E1.out _).mono ?_)
    rintro e wc ⟨rfl, hb⟩
    have HBc := Lib.hid ((HBb.out.step hb).alloc (.cells #[.int .u64 (u1 : Int), .int .u64 (u2 : Int)] 24))
    have HNc := Lib.hid ((HNb.out.bel hb).alloc (.cells #[.int .u64 (u1 : Int), .int .u64 (u2 : Int)] 24))
    have HXc := Lib.hid ((HXb.out.bel hb).alloc (.cells #[.int .u64 (u1 : Int), .int .u64 (u2 : Int)] 24))
    have HGc := Lib.hid ((HGb.out.bel hb).alloc (.cells #[.int .u64 (u1 : Int), .int .u64 (u2 : Int)] 24))
    have HUc := Lib.hid (Blk.new wc 24 #[.int .u64 (u1 : Int), .int .u64 (u2 : Int)])
    clear HBb HNb HXb HGb hb E1
    go_wp2_with fail
    (with_reducible refine (E2.out _).mono ?_)
    rintro e wd ⟨rfl, hb⟩
    have HBd := Lib.hid ((HBc.out.step hb).alloc (.cells #[.int .u64 (u1 : Int), .int .u64 (u2 : Int)] 24))
    have HNd := Lib.hid ((HNc.out.bel hb).alloc (.cells #[.int .u64 (u1 : Int), .int .u64 (u2 : Int)] 24))
    have HXd := Lib.hid ((HXc.out.bel hb).alloc (.cells #[.int .u64 (u1 : Int), .int .u64 (u2 : Int)] 24))
    have HGd := Lib.hid ((HGc.out.bel hb).alloc (.cells #[.int .u64 (u1 : Int), .int .u64 (u2 : Int)] 24))
    have HUd := Lib.hid ((HUc.out.bel hb).alloc (.cells #[.int .u64 (u1 : Int), .int .u64 (u2 : Int)] 24))
    have HVd := Lib.hid (Blk.new wd 24 #[.int .u64 (u1 : Int), .int .u64 (u2 : Int)])
    clear HBc HNc HXc HGc HUc hb E2
    go_upto_region 15 with fail
    generalize wd.alloc (.cells #[.int .u64 (u1 : Int), .int .u64 (u2 : Int)] 24) = wz at *
    have hS : Bel w wz.drew ∧ (wz.drew.cell? ⟨w.heap.size, 0, none⟩ = some (.int .u64 (t1 : Int)) ∧ wz.drew.cell? ⟨w.heap.size, 1, none⟩ = some (.int .u64 (t2 : Int))) ∧ (wz.drew.cell? ⟨wa.heap.size, 0, none⟩ = some (.int .u64 (e1 : Int)) ∧ wz.drew.cell? ⟨wa.heap.size, 1, none⟩ = some (.int .u64 (e2 : Int))) ∧ (wz.drew.cell? ⟨wb.heap.size, 0, none⟩ = some (.string x) ∧ wz.drew.cell? ⟨wb.heap.size, 1, none⟩ = some (.int .u64 (e1 : Int)) ∧ wz.drew.cell? ⟨wb.heap.size, 2, none⟩ = some (.int .u64 (e2 : Int)) ∧ wz.drew.cell? ⟨wb.heap.size, 3, none⟩ = some (.bool is)) ∧ (wz.drew.cell? ⟨wc.heap.size, 0, none⟩ = some (.int .u64 (u1 : Int)) ∧ wz.drew.cell? ⟨wc.heap.size, 1, none⟩ = some (.int .u64 (u2 : Int))) ∧ (wz.drew.cell? ⟨wd.heap.size, 0, none⟩ = some (.int .u64 (u1 : Int)) ∧ wz.drew.cell? ⟨wd.heap.size, 1, none⟩ = some (.int .u64 (u2 : Int))) := ⟨HBd.out.drew, HNd.out.drew.two, HXd.out.drew.two, HGd.out.drew.four, HUd.out.drew.two, HVd.out.drew.two⟩
    have HS := Lib.hid fun (w' w'' : World) (h : Bel w w' ∧ (w'.cell? ⟨w.heap.size, 0, none⟩ = some (.int .u64 (t1 : Int)) ∧ w'.cell? ⟨w.heap.size, 1, none⟩ = some (.int .u64 (t2 : Int))) ∧ (w'.cell? ⟨wa.heap.size, 0, none⟩ = some (.int .u64 (e1 : Int)) ∧ w'.cell? ⟨wa.heap.size, 1, none⟩ = some (.int .u64 (e2 : Int))) ∧ (w'.cell? ⟨wb.heap.size, 0, none⟩ = some (.string x) ∧ w'.cell? ⟨wb.heap.size, 1, none⟩ = some (.int .u64 (e1 : Int)) ∧ w'.cell? ⟨wb.heap.size, 2, none⟩ = some (.int .u64 (e2 : Int)) ∧ w'.cell? ⟨wb.heap.size, 3, none⟩ = some (.bool is)) ∧ (w'.cell? ⟨wc.heap.size, 0, none⟩ = some (.int .u64 (u1 : Int)) ∧ w'.cell? ⟨wc.heap.size, 1, none⟩ = some (.int .u64 (u2 : Int))) ∧ (w'.cell? ⟨wd.heap.size, 0, none⟩ = some (.int .u64 (u1 : Int)) ∧ w'.cell? ⟨wd.heap.size, 1, none⟩ = some (.int .u64 (u2 : Int)))) (hb : Below w'.heap.size w' w'') => (show Bel w w'' ∧ (w''.cell? ⟨w.heap.size, 0, none⟩ = some (.int .u64 (t1 : Int)) ∧ w''.cell? ⟨w.heap.size, 1, none⟩ = some (.int .u64 (t2 : Int))) ∧ (w''.cell? ⟨wa.heap.size, 0, none⟩ = some (.int .u64 (e1 : Int)) ∧ w''.cell? ⟨wa.heap.size, 1, none⟩ = some (.int .u64 (e2 : Int))) ∧ (w''.cell? ⟨wb.heap.size, 0, none⟩ = some (.string x) ∧ w''.cell? ⟨wb.heap.size, 1, none⟩ = some (.int .u64 (e1 : Int)) ∧ w''.cell? ⟨wb.heap.size, 2, none⟩ = some (.int .u64 (e2 : Int)) ∧ w''.cell? ⟨wb.heap.size, 3, none⟩ = some (.bool is)) ∧ (w''.cell? ⟨wc.heap.size, 0, none⟩ = some (.int .u64 (u1 : Int)) ∧ w''.cell? ⟨wc.heap.size, 1, none⟩ = some (.int .u64 (u2 : Int))) ∧ (w''.cell? ⟨wd.heap.size, 0, none⟩ = some (.int .u64 (u1 : Int)) ∧ w''.cell? ⟨wd.heap.size, 1, none⟩ = some (.int .u64 (u2 : Int))) from by
      obtain ⟨h1, ⟨h2, h3⟩, ⟨h4, h5⟩, ⟨h6, h7, h8, h9⟩, ⟨h10, h11⟩, h12, h13⟩ := h
      exact ⟨h1.step hb, ⟨Bel.keep hb h2, Bel.keep hb h3⟩, ⟨Bel.keep hb h4, Bel.keep hb h5⟩, ⟨Bel.keep hb h6, Bel.keep hb h7, Bel.keep hb h8, Bel.keep hb h9⟩, ⟨Bel.keep hb h10, Bel.keep hb h11⟩, Bel.keep hb h12, Bel.keep hb h13⟩)
    clear HBd HNd HXd HGd HUd HVd
    refine wp_region_ord [(0, false, true), (1, false, true), (2, false, true), (3, false, true), (4, false, true), (5, false, true), (6, false, true), (7, false, true), (8, false, true), (9, false, true), (10, false, true), (11, false, true), (12, false, true), (13, false, true), (14, false, true), (15, false, true), (16, false, true), (17, false, true), (18, false, true), (19, false, true), (20, false, true), (21, false, true), (22, false, true), (23, false, true), (24, false, true), (25, false, true), (26, false, true), (27, false, true), (28, false, true), (29, false, true), (30, false, true), (31, false, true), (33, false, true), (34, false, true), (32, true, true), (35, true, true), (36, false, true), (37, false, true), (38, false, true)]
      (fun w' => Bel w w' ∧ (w'.cell? ⟨w.heap.size, 0, none⟩ = some (.int .u64 (t1 : Int)) ∧ w'.cell? ⟨w.heap.size, 1, none⟩ = some (.int .u64 (t2 : Int))) ∧ (w'.cell? ⟨wa.heap.size, 0, none⟩ = some (.int .u64 (e1 : Int)) ∧ w'.cell? ⟨wa.heap.size, 1, none⟩ = some (.int .u64 (e2 : Int))) ∧ (w'.cell? ⟨wb.heap.size, 0, none⟩ = some (.string x) ∧ w'.cell? ⟨wb.heap.size, 1, none⟩ = some (.int .u64 (e1 : Int)) ∧ w'.cell? ⟨wb.heap.size, 2, none⟩ = some (.int .u64 (e2 : Int)) ∧ w'.cell? ⟨wb.heap.size, 3, none⟩ = some (.bool is)) ∧ (w'.cell? ⟨wc.heap.size, 0, none⟩ = some (.int .u64 (u1 : Int)) ∧ w'.cell? ⟨wc.heap.size, 1, none⟩ = some (.int .u64 (u2 : Int))) ∧ (w'.cell? ⟨wd.heap.size, 0, none⟩ = some (.int .u64 (u1 : Int)) ∧ w'.cell? ⟨wd.heap.size, 1, none⟩ = some (.int .u64 (u2 : Int)))) (by kernel_rfl) (by kernel_rfl) (by decide) (by kernel_rfl) ?_
    repeat (first
      | (refine O_take _ _ rfl (by rfl) (fun _ _ _ h => h) (by assumption) (fun w hSw => by (simp only [List.getElem_toArray, List.getElem_cons_zero, List.getElem_cons_succ]; go_simp; first | done | with_reducible rfl)) ?_; simp only [Act.put, List.getElem_toArray, List.getElem_cons_zero, List.getElem_cons_succ, List.setIfInBounds_toArray, List.set_cons_zero, List.set_cons_succ])
      | (refine O_pass _ rfl (by rfl) (fun _ _ _ h => h) (by assumption) ?_; simp only [Act.put, List.getElem_toArray, List.getElem_cons_zero, List.getElem_cons_succ, List.setIfInBounds_toArray, List.set_cons_zero, List.set_cons_succ])
      | (refine O_idle _ rfl (by rfl) (by assumption) ?_; simp only [Act.put, List.getElem_toArray, List.getElem_cons_zero, List.getElem_cons_succ, List.setIfInBounds_toArray, List.set_cons_zero, List.set_cons_succ]))
    refine O_act _ rfl (by rfl) (fun K' hK => ?_)
    simp only [List.getElem_toArray, List.getElem_cons_zero, List.getElem_cons_succ]
    go_simp
    (with_reducible refine (I1.out _).mono ?_)
    rintro e w8 ⟨rfl, hb⟩
    have hS := HS.out _ _ hS hb
    refine hK _ _ hS ?_
    clear hK K' hb
    repeat (first
      | (refine O_take _ _ rfl (by rfl) (fun _ _ _ h => h) (by assumption) (fun w hSw => by (simp only [List.getElem_toArray, List.getElem_cons_zero, List.getElem_cons_succ]; go_simp; first | done | with_reducible rfl)) ?_; simp only [Act.put, List.getElem_toArray, List.getElem_cons_zero, List.getElem_cons_succ, List.setIfInBounds_toArray, List.set_cons_zero, List.set_cons_succ])
      | (refine O_pass _ rfl (by rfl) (fun _ _ _ h => h) (by assumption) ?_; simp only [Act.put, List.getElem_toArray, List.getElem_cons_zero, List.getElem_cons_succ, List.setIfInBounds_toArray, List.set_cons_zero, List.set_cons_succ])
      | (refine O_idle _ rfl (by rfl) (by assumption) ?_; simp only [Act.put, List.getElem_toArray, List.getElem_cons_zero, List.getElem_cons_succ, List.setIfInBounds_toArray, List.set_cons_zero, List.set_cons_succ]))
    refine O_act _ rfl (by rfl) (fun K' hK => ?_)
    simp only [List.getElem_toArray, List.getElem_cons_zero, List.getElem_cons_succ]
    go_simp
    (with_reducible refine (I2.out _).mono ?_)
    rintro e w9 ⟨rfl, hb⟩
    have hS := HS.out _ _ hS hb
    refine hK _ _ hS ?_
    clear hK K' hb
    repeat (first
      | (refine O_take _ _ rfl (by rfl) (fun _ _ _ h => h) (by assumption) (fun w hSw => by (simp only [List.getElem_toArray, List.getElem_cons_zero, List.getElem_cons_succ]; go_simp; first | done | with_reducible rfl)) ?_; simp only [Act.put, List.getElem_toArray, List.getElem_cons_zero, List.getElem_cons_succ, List.setIfInBounds_toArray, List.set_cons_zero, List.set_cons_succ])
      | (refine O_pass _ rfl (by rfl) (fun _ _ _ h => h) (by assumption) ?_; simp only [Act.put, List.getElem_toArray, List.getElem_cons_zero, List.getElem_cons_succ, List.setIfInBounds_toArray, List.set_cons_zero, List.set_cons_succ])
      | (refine O_idle _ rfl (by rfl) (by assumption) ?_; simp only [Act.put, List.getElem_toArray, List.getElem_cons_zero, List.getElem_cons_succ, List.setIfInBounds_toArray, List.set_cons_zero, List.set_cons_succ]))
    refine O_nil ?_
    have HB9 := Lib.hid hS.1
    clear hS HS
    (try simp only [NoPanic])
    go_wp2_with fail
    go_ret
    exact ⟨rfl, HB9.out⟩
  focus
    have hz1 : ¬ ((r : Int) = 0) := by omega
    have hz2 : ((r : Int) == 0) = false := by simpa using hz
    have hz4 : ((r : Int) != 0) = true := by simpa using hz
    go_upto_region 4 with fail
    have hS : w1.drew.cell? ⟨w.heap.size, 0, none⟩ = some (.int .u64 (t1 : Int)) ∧ w1.drew.cell? ⟨w.heap.size, 1, none⟩ = some (.int .u64 (t2 : Int)) := HN0.out.drew.two
    refine wp_region_ord [(0, false, true), (2, false, true), (1, true, true), (3, true, true), (4, false, true), (5, false, true), (6, false, true), (7, false, true), (8, false, true)]
      (fun w' => w'.cell? ⟨w.heap.size, 0, none⟩ = some (.int .u64 (t1 : Int)) ∧ w'.cell? ⟨w.heap.size, 1, none⟩ = some (.int .u64 (t2 : Int))) (by kernel_rfl) (by kernel_rfl) (by decide) (by kernel_rfl) ?_
    repeat (first
      | (refine O_take _ _ rfl (by rfl) (fun _ _ _ h => h) (by assumption) (fun w hSw => by (simp only [List.getElem_toArray, List.getElem_cons_zero, List.getElem_cons_succ]; go_simp; first | done | with_reducible rfl)) ?_; simp only [Act.put, List.getElem_toArray, List.getElem_cons_zero, List.getElem_cons_succ, List.setIfInBounds_toArray, List.set_cons_zero, List.set_cons_succ])
      | (refine O_pass _ rfl (by rfl) (fun _ _ _ h => h) (by assumption) ?_; simp only [Act.put, List.getElem_toArray, List.getElem_cons_zero, List.getElem_cons_succ, List.setIfInBounds_toArray, List.set_cons_zero, List.set_cons_succ])
      | (refine O_idle _ rfl (by rfl) (by assumption) ?_; simp only [Act.put, List.getElem_toArray, List.getElem_cons_zero, List.getElem_cons_succ, List.setIfInBounds_toArray, List.set_cons_zero, List.set_cons_succ]))
    refine O_act _ rfl (by rfl) (fun K' hK => ?_)
    simp only [List.getElem_toArray, List.getElem_cons_zero, List.getElem_cons_succ]
    go_simp
    (with_reducible refine (SH7.out _).mono ?_)
    rintro e w2 ⟨rfl, rfl⟩
    refine hK _ _ hS ?_
    clear hK K'
    repeat (first
      | (refine O_take _ _ rfl (by rfl) (fun _ _ _ h => h) (by assumption) (fun w hSw => by (simp only [List.getElem_toArray, List.getElem_cons_zero, List.getElem_cons_succ]; go_simp; first | done | with_reducible rfl)) ?_; simp only [Act.put, List.getElem_toArray, List.getElem_cons_zero, List.getElem_cons_succ, List.setIfInBounds_toArray, List.set_cons_zero, List.set_cons_succ])
      | (refine O_pass _ rfl (by rfl) (fun _ _ _ h => h) (by assumption) ?_; simp only [Act.put, List.getElem_toArray, List.getElem_cons_zero, List.getElem_cons_succ, List.setIfInBounds_toArray, List.set_cons_zero, List.set_cons_succ])
      | (refine O_idle _ rfl (by rfl) (by assumption) ?_; simp only [Act.put, List.getElem_toArray, List.getElem_cons_zero, List.getElem_cons_succ, List.setIfInBounds_toArray, List.set_cons_zero, List.set_cons_succ]))
    refine O_act _ rfl (by rfl) (fun K' hK => ?_)
    simp only [List.getElem_toArray, List.getElem_cons_zero, List.getElem_cons_succ]
    go_simp
    (with_reducible refine (M1.out _).mono ?_)
    rintro e w2 ⟨rfl, hb⟩
    have hS := (HN0.out.drew.bel hb).two
    refine hK _ _ hS ?_
    clear hK K'
    repeat (first
      | (refine O_take _ _ rfl (by rfl) (fun _ _ _ h => h) (by assumption) (fun w hSw => by (simp only [List.getElem_toArray, List.getElem_cons_zero, List.getElem_cons_succ]; go_simp; first | done | with_reducible rfl)) ?_; simp only [Act.put, List.getElem_toArray, List.getElem_cons_zero, List.getElem_cons_succ, List.setIfInBounds_toArray, List.set_cons_zero, List.set_cons_succ])
      | (refine O_pass _ rfl (by rfl) (fun _ _ _ h => h) (by assumption) ?_; simp only [Act.put, List.getElem_toArray, List.getElem_cons_zero, List.getElem_cons_succ, List.setIfInBounds_toArray, List.set_cons_zero, List.set_cons_succ])
      | (refine O_idle _ rfl (by rfl) (by assumption) ?_; simp only [Act.put, List.getElem_toArray, List.getElem_cons_zero, List.getElem_cons_succ, List.setIfInBounds_toArray, List.set_cons_zero, List.set_cons_succ]))
    refine O_nil ?_
    have HN3 := Lib.hid (HN0.out.drew.bel hb)
    have HM3 := Lib.hid (HM0.out.drew.bel hb)
    have HB3 := Lib.hid (HB0.out.drew.step hb)
    clear hS HN0 HM0 HB0 hb m0
    (try simp only [NoPanic])
    go_upto_region 5 with fail
    have hcv := CV.out
    go_upto_region 6 with fail
    clear hcv
    have hbb := BB.out w2
    have hbn := BNk.out w2
    have HAL : Hid (∀ j (hj : j < sm.length), (Lib.bytesWorld w2 5 sa).cell? ⟨w2.heap.size, j, none⟩ = some (.int .u8 (sm[j].toNat : Int))) := Lib.hid fun j hj => (BN.out w2 j hj).1
    have HN5 := Lib.hid (HN3.out.bel hbb)
    have HM5 := Lib.hid (HM3.out.bel hbb)
    have HB5 := Lib.hid (HB3.out.step hbb)
    have CS4 := Lib.hid (CS.out w2)
    have hwg : w.heap.size ≤ w2.heap.size := HB3.out.size
    have lN : w.heap.size ≠ w2.heap.size := by have := HN3.out.lt; omega
    have lM : w.heap.size + 1 ≠ w2.heap.size := by have := HM3.out.lt; omega
    have hgs : w2.heap.size < (Lib.bytesWorld w2 5 sa).heap.size := by rw [Lib.bytesWorld_size]; omega
    clear hbb HN3 HM3 HB3 CS
    generalize grownCap w2 128 0 5 = cap at *
    generalize Lib.bytesWorld w2 5 sa = w5 at *
    generalize w2.heap.size = g at *
    have m1 : w5.cell? ⟨w.heap.size + 1, 1, none⟩ = some (.int .i64 q1) := HM5.out.cell 1
    have m2 : w5.cell? ⟨w.heap.size + 1, 2, none⟩ = some (.int .i64 q2) := HM5.out.cell 2
    obtain ⟨n0, n1⟩ := hbn
    go_upto_region 7 with fail
    rw [HK.out]
    clear b1 b2
    have hk0 : (0 : Int) ≤ (k : Int) := by omega
    have hk1 : (k : Int) < 128 := by omega
    have hxb := XB.out
    rw [hwq] at hxb
    refine wp_region_ord [(0, false, true), (1, false, true), (2, false, true), (3, false, true), (4, false, true), (5, false, true), (6, false, true), (7, false, true), (8, false, true), (9, false, true), (10, false, true), (11, true, false)]
      (fun w' => w'.cell? ⟨g, k, none⟩ = some (.int .u8 (ck.toNat : Int)) ∧ w'.cell? ⟨w.heap.size + 1, 2, none⟩ = some (.int .i64 q2)) (by kernel_rfl) (by kernel_rfl) (by decide) (by kernel_rfl) ?_
    have hS : w5.drew.cell? ⟨g, k, none⟩ = some (.int .u8 (ck.toNat : Int)) ∧ w5.drew.cell? ⟨w.heap.size + 1, 2, none⟩ = some (.int .i64 q2) := ⟨n0, m2⟩
    repeat (first
      | (refine O_take _ _ rfl (by rfl) (fun _ _ _ h => h) (by assumption) (fun w hSw => by (simp only [List.getElem_toArray, List.getElem_cons_zero, List.getElem_cons_succ]; go_simp; first | done | with_reducible rfl)) ?_; simp only [Act.put, List.getElem_toArray, List.getElem_cons_zero, List.getElem_cons_succ, List.setIfInBounds_toArray, List.set_cons_zero, List.set_cons_succ])
      | (refine O_pass _ rfl (by rfl) (fun _ _ _ h => h) (by assumption) ?_; simp only [Act.put, List.getElem_toArray, List.getElem_cons_zero, List.getElem_cons_succ, List.setIfInBounds_toArray, List.set_cons_zero, List.set_cons_succ])
      | (refine O_idle _ rfl (by rfl) (by assumption) ?_; simp only [Act.put, List.getElem_toArray, List.getElem_cons_zero, List.getElem_cons_succ, List.setIfInBounds_toArray, List.set_cons_zero, List.set_cons_succ]))
    clear hS
    refine O_actF _ rfl (by rfl) (fun K' hK => ?_)
    simp only [List.getElem_toArray, List.getElem_cons_zero, List.getElem_cons_succ]
    go_simp
    refine hK _ _ ?_
    clear hK K' n1 hxb
    (try simp only [Act.put, List.getElem_toArray, List.getElem_cons_zero, List.getElem_cons_succ, List.setIfInBounds_toArray, List.set_cons_zero, List.set_cons_succ])
    refine O_nil ?_
    (try simp only [NoPanic])
    have hcvt : (convert 31 9 (.slice (some ⟨g, 0, none⟩) 128 cap)).run Tryd.prog (w5.setCell ⟨g, k, none⟩ (.int .u8 (c.toNat : Int))).drew = .ok (.string sc) (w5.setCell ⟨g, k, none⟩ (.int .u8 (c.toNat : Int))).drew := CS4.out w5.drew cap HAL.out ⟨_, n0⟩
    have HB0 : Hid (Bel w (w5.setCell ⟨g, k, none⟩ (.int .u8 (c.toNat : Int))).drew) := Lib.hid ((HB5.out.setCell (p := ⟨g, k, none⟩) hwg _).drew)
    have HN0 : Hid (Blk (w5.setCell ⟨g, k, none⟩ (.int .u8 (c.toNat : Int))).drew w.heap.size 24 #[.int .u64 (t1 : Int), .int .u64 (t2 : Int)]) := Lib.hid (HN5.out.far (p := ⟨g, k, none⟩) lN _).drew
    have HM6 : Hid (Blk (w5.setCell ⟨g, k, none⟩ (.int .u8 (c.toNat : Int))).drew (w.heap.size + 1) 25 #[.int .i64 q0, .int .i64 q1, .int .i64 q2]) := Lib.hid (HM5.out.far (p := ⟨g, k, none⟩) lM _).drew
    clear n0 m1 m2 HB5 HN5 HM5 CS4 HAL
    generalize (w5.setCell ⟨g, k, none⟩ (.int .u8 (c.toNat : Int))).drew = w6 at *
    have m0 : w6.cell? ⟨w.heap.size + 1, 0, none⟩ = some (.int .i64 q0) := HM6.out.cell 0
    go_upto_region 9 with fail
    clear hcvt
    by_cases hz5 : r = 3
    focus
      subst hz5
      have hr : bits .and .i64 q0 3 = 3 := by simpa using hr
      clear hz1 hz2 hz4
      go_upto_region 11 with fail
      (try rw [HEX.out])
      have AGL := AG2.out
      clear AG0 AG1 AG2 m0
      obtain ⟨x, e1, e2, u1, u2, is, eb, ib, R1, R2, E1, E2, I1, I2⟩ := AGL
      have R1 := Lib.hid R1
      have R2 := Lib.hid R2
      have E1 := Lib.hid E1
      have E2 := Lib.hid E2
      have I1 := Lib.hid I1
      have I2 := Lib.hid I2
      go_wp2_with fail
      (with_reducible refine (R1.out _).mono ?_)
      rintro e wa ⟨rfl, hb⟩
      have HBa := Lib.hid ((HB0.out.step hb).alloc (.cells #[.int .u64 (e1 : Int), .int .u64 (e2 : Int)] 24))
      have HNa := Lib.hid ((HN0.out.bel hb).alloc (.cells #[.int .u64 (e1 : Int), .int .u64 (e2 : Int)] 24))
      have HXa := Lib.hid (Blk.new wa 24 #[.int .u64 (e1 : Int), .int .u64 (e2 : Int)])
      clear HB0 HN0 hb R1
      go_wp2_with fail
      (with_reducible refine (R2.out _).mono ?_)
      rintro e wb ⟨rfl, hb⟩
      have HBb := Lib.hid ((HBa.out.step hb).alloc (.cells #[.string x, .int .u64 (e1 : Int), .int .u64 (e2 : Int), .bool is] 35))
      have HNb := Lib.hid ((HNa.out.bel hb).alloc (.cells #[.string x, .int .u64 (e1 : Int), .int .u64 (e2 : Int), .bool is] 35))
      have HXb := Lib.hid ((HXa.out.bel hb).alloc (.cells #[.string x, .int .u64 (e1 : Int), .int .u64 (e2 : Int), .bool is] 35))
      have HGb := Lib.hid (Blk.new wb 35 #[.string x, .int .u64 (e1 : Int), .int .u64 (e2 : Int), .bool is])
      clear HBa HNa HXa hb R2
      go_wp2_with fail
      (with_reducible refine (E1.out _).mono ?_)
      rintro e wc ⟨rfl, hb⟩
      have HBc := Lib.hid ((HBb.out.step hb).alloc (.cells #[.int .u64 (u1 : Int), .int .u64 (u2 : Int)] 24))
      have HNc := Lib.hid ((HNb.out.bel hb).alloc (.cells #[.int .u64 (u1 : Int), .int .u64 (u2 : Int)] 24))
      have HXc := Lib.hid ((HXb.out.bel hb).alloc (.cells #[.int .u64 (u1 : Int), .int .u64 (u2 : Int)] 24))
      have HGc := Lib.hid ((HGb.out.bel hb).alloc (.cells #[.int .u64 (u1 : Int), .int .u64 (u2 : Int)] 24))
      have HUc := Lib.hid (Blk.new wc 24 #[.int .u64 (u1 : Int), .int .u64 (u2 : Int)])
      clear HBb HNb HXb HGb hb E1
      go_wp2_with fail
      (with_reducible refine (E2.out _).mono ?_)
      rintro e wd ⟨rfl, hb⟩
      have HBd := Lib.hid ((HBc.out.step hb).alloc (.cells #[.int .u64 (u1 : Int), .int .u64 (u2 : Int)] 24))
      have HNd := Lib.hid ((HNc.out.bel hb).alloc (.cells #[.int .u64 (u1 : Int), .int .u64 (u2 : Int)] 24))
      have HXd := Lib.hid ((HXc.out.bel hb).alloc (.cells #[.int .u64 (u1 : Int), .int .u64 (u2 : Int)] 24))
      have HGd := Lib.hid ((HGc.out.bel hb).alloc (.cells #[.int .u64 (u1 : Int), .int .u64 (u2 : Int)] 24))
      have HUd := Lib.hid ((HUc.out.bel hb).alloc (.cells #[.int .u64 (u1 : Int), .int .u64 (u2 : Int)] 24))
      have HVd := Lib.hid (Blk.new wd 24 #[.int .u64 (u1 : Int), .int .u64 (u2 : Int)])
      clear HBc HNc HXc HGc HUc hb E2
      go_upto_region 15 with fail
      generalize wd.alloc (.cells #[.int .u64 (u1 : Int), .int .u64 (u2 : Int)] 24) = wz at *
      have hS : Bel w wz.drew ∧ (wz.drew.cell? ⟨w.heap.size, 0, none⟩ = some (.int .u64 (t1 : Int)) ∧ wz.drew.cell? ⟨w.heap.size, 1, none⟩ = some (.int .u64 (t2 : Int))) ∧ (wz.drew.cell? ⟨wa.heap.size, 0, none⟩ = some (.int .u64 (e1 : Int)) ∧ wz.drew.cell? ⟨wa.heap.size, 1, none⟩ = some (.int .u64 (e2 : Int))) ∧ (wz.drew.cell? ⟨wb.heap.size, 0, none⟩ = some (.string x) ∧ wz.drew.cell? ⟨wb.heap.size, 1, none⟩ = some (.int .u64 (e1 : Int)) ∧ wz.drew.cell? ⟨wb.heap.size, 2, none⟩ = some (.int .u64 (e2 : Int)) ∧ wz.drew.cell? ⟨wb.heap.size, 3, none⟩ = some (.bool is)) ∧ (wz.drew.cell? ⟨wc.heap.size, 0, none⟩ = some (.int .u64 (u1 : Int)) ∧ wz.drew.cell? ⟨wc.heap.size, 1, none⟩ = some (.int .u64 (u2 : Int))) ∧ (wz.drew.cell? ⟨wd.heap.size, 0, none⟩ = some (.int .u64 (u1 : Int)) ∧ wz.drew.cell? ⟨wd.heap.size, 1, none⟩ = some (.int .u64 (u2 : Int))) := ⟨HBd.out.drew, HNd.out.drew.two, HXd.out.drew.two, HGd.out.drew.four, HUd.out.drew.two, HVd.out.drew.two⟩
      have HS := Lib.hid fun (w' w'' : World) (h : Bel w w' ∧ (w'.cell? ⟨w.heap.size, 0, none⟩ = some (.int .u64 (t1 : Int)) ∧ w'.cell? ⟨w.heap.size, 1, none⟩ = some (.int .u64 (t2 : Int))) ∧ (w'.cell? ⟨wa.heap.size, 0, none⟩ = some (.int .u64 (e1 : Int)) ∧ w'.cell? ⟨wa.heap.size, 1, none⟩ = some (.int .u64 (e2 : Int))) ∧ (w'.cell? ⟨wb.heap.size, 0, none⟩ = some (.string x) ∧ w'.cell? ⟨wb.heap.size, 1, none⟩ = some (.int .u64 (e1 : Int)) ∧ w'.cell? ⟨wb.heap.size, 2, none⟩ = some (.int .u64 (e2 : Int)) ∧ w'.cell? ⟨wb.heap.size, 3, none⟩ = some (.bool is)) ∧ (w'.cell? ⟨wc.heap.size, 0, none⟩ = some (.int .u64 (u1 : Int)) ∧ w'.cell? ⟨wc.heap.size, 1, none⟩ = some (.int .u64 (u2 : Int))) ∧ (w'.cell? ⟨wd.heap.size, 0, none⟩ = some (.int .u64 (u1 : Int)) ∧ w'.cell? ⟨wd.heap.size, 1, none⟩ = some (.int .u64 (u2 : Int)))) (hb : Below w'.heap.size w' w'') => (show Bel w w'' ∧ (w''.cell? ⟨w.heap.size, 0, none⟩ = some (.int .u64 (t1 : Int)) ∧ w''.cell? ⟨w.heap.size, 1, none⟩ = some (.int .u64 (t2 : Int))) ∧ (w''.cell? ⟨wa.heap.size, 0, none⟩ = some (.int .u64 (e1 : Int)) ∧ w''.cell? ⟨wa.heap.size, 1, none⟩ = some (.int .u64 (e2 : Int))) ∧ (w''.cell? ⟨wb.heap.size, 0, none⟩ = some (.string x) ∧ w''.cell? ⟨wb.heap.size, 1, none⟩ = some (.int .u64 (e1 : Int)) ∧ w''.cell? ⟨wb.heap.size, 2, none⟩ = some (.int .u64 (e2 : Int)) ∧ w''.cell? ⟨wb.heap.size, 3, none⟩ = some (.bool is)) ∧ (w''.cell? ⟨wc.heap.size, 0, none⟩ = some (.int .u64 (u1 : Int)) ∧ w''.cell? ⟨wc.heap.size, 1, none⟩ = some (.int .u64 (u2 : Int))) ∧ (w''.cell? ⟨wd.heap.size, 0, none⟩ = some (.int .u64 (u1 : Int)) ∧ w''.cell? ⟨wd.heap.size, 1, none⟩ = some (.int .u64 (u2 : Int))) from by
        obtain ⟨h1, ⟨h2, h3⟩, ⟨h4, h5⟩, ⟨h6, h7, h8, h9⟩, ⟨h10, h11⟩, h12, h13⟩ := h
        exact ⟨h1.step hb, ⟨Bel.keep hb h2, Bel.keep hb h3⟩, ⟨Bel.keep hb h4, Bel.keep hb h5⟩, ⟨Bel.keep hb h6, Bel.keep hb h7, Bel.keep hb h8, Bel.keep hb h9⟩, ⟨Bel.keep hb h10, Bel.keep hb h11⟩, Bel.keep hb h12, Bel.keep hb h13⟩)
      clear HBd HNd HXd HGd HUd HVd
      refine wp_region_ord [(0, false, true), (1, false, true), (2, false, true), (3, false, true), (4, false, true), (5, false, true), (6, false, true), (7, false, true), (8, false, true), (9, false, true), (10, false, true), (11, false, true), (12, false, true), (13, false, true), (14, false, true), (15, false, true), (16, false, true), (17, false, true), (18, false, true), (19, false, true), (20, false, true), (21, false, true), (22, false, true), (23, false, true), (24, false, true), (25, false, true), (26, false, true), (27, false, true), (28, false, true), (29, false, true), (30, false, true), (31, false, true), (33, false, true), (34, false, true), (32, true, true), (35, true, true), (36, false, true), (37, false, true), (38, false, true)]
        (fun w' => Bel w w' ∧ (w'.cell? ⟨w.heap.size, 0, none⟩ = some (.int .u64 (t1 : Int)) ∧ w'.cell? ⟨w.heap.size, 1, none⟩ = some (.int .u64 (t2 : Int))) ∧ (w'.cell? ⟨wa.heap.size, 0, none⟩ = some (.int .u64 (e1 : Int)) ∧ w'.cell? ⟨wa.heap.size, 1, none⟩ = some (.int .u64 (e2 : Int))) ∧ (w'.cell? ⟨wb.heap.size, 0, none⟩ = some (.string x) ∧ w'.cell? ⟨wb.heap.size, 1, none⟩ = some (.int .u64 (e1 : Int)) ∧ w'.cell? ⟨wb.heap.size, 2, none⟩ = some (.int .u64 (e2 : Int)) ∧ w'.cell? ⟨wb.heap.size, 3, none⟩ = some (.bool is)) ∧ (w'.cell? ⟨wc.heap.size, 0, none⟩ = some (.int .u64 (u1 : Int)) ∧ w'.cell? ⟨wc.heap.size, 1, none⟩ = some (.int .u64 (u2 : Int))) ∧ (w'.cell? ⟨wd.heap.size, 0, none⟩ = some (.int .u64 (u1 : Int)) ∧ w'.cell? ⟨wd.heap.size, 1, none⟩ = some (.int .u64 (u2 : Int)))) (by kernel_rfl) (by kernel_rfl) (by decide) (by kernel_rfl) ?_
      repeat (first
        | (refine O_take _ _ rfl (by rfl) (fun _ _ _ h => h) (by assumption) (fun w hSw => by (simp only [List.getElem_toArray, List.getElem_cons_zero, List.getElem_cons_succ]; go_simp; first | done | with_reducible rfl)) ?_; simp only [Act.put, List.getElem_toArray, List.getElem_cons_zero, List.getElem_cons_succ, List.setIfInBounds_toArray, List.set_cons_zero, List.set_cons_succ])
        | (refine O_pass _ rfl (by rfl) (fun _ _ _ h => h) (by assumption) ?_; simp only [Act.put, List.getElem_toArray, List.getElem_cons_zero, List.getElem_cons_succ, List.setIfInBounds_toArray, List.set_cons_zero, List.set_cons_succ])
        | (refine O_idle _ rfl (by rfl) (by assumption) ?_; simp only [Act.put, List.getElem_toArray, List.getElem_cons_zero, List.getElem_cons_succ, List.setIfInBounds_toArray, List.set_cons_zero, List.set_cons_succ]))
      refine O_act _ rfl (by rfl) (fun K' hK => ?_)
      simp only [List.getElem_toArray, List.getElem_cons_zero, List.getElem_cons_succ]
      go_simp
      (with_reducible refine (I1.out _).mono ?_)
      rintro e w8 ⟨rfl, hb⟩
      have hS := HS.out _ _ hS hb
      refine hK _ _ hS ?_
      clear hK K' hb
      repeat (first
        | (refine O_take _ _ rfl (by rfl) (fun _ _ _ h => h) (by assumption) (fun w hSw => by (simp only [List.getElem_toArray, List.getElem_cons_zero, List.getElem_cons_succ]; go_simp; first | done | with_reducible rfl)) ?_; simp only [Act.put, List.getElem_toArray, List.getElem_cons_zero, List.getElem_cons_succ, List.setIfInBounds_toArray, List.set_cons_zero, List.set_cons_succ])
        | (refine O_pass _ rfl (by rfl) (fun _ _ _ h => h) (by assumption) ?_; simp only [Act.put, List.getElem_toArray, List.getElem_cons_zero, List.getElem_cons_succ, List.setIfInBounds_toArray, List.set_cons_zero, List.set_cons_succ])
        | (refine O_idle _ rfl (by rfl) (by assumption) ?_; simp only [Act.put, List.getElem_toArray, List.getElem_cons_zero, List.getElem_cons_succ, List.setIfInBounds_toArray, List.set_cons_zero, List.set_cons_succ]))
      refine O_act _ rfl (by rfl) (fun K' hK => ?_)
      simp only [List.getElem_toArray, List.getElem_cons_zero, List.getElem_cons_succ]
      go_simp
      (with_reducible refine (I2.out _).mono ?_)
      rintro e w9 ⟨rfl, hb⟩
      have hS := HS.out _ _ hS hb
      refine hK _ _ hS ?_
      clear hK K' hb
      repeat (first
        | (refine O_take _ _ rfl (by rfl) (fun _ _ _ h => h) (by assumption) (fun w hSw => by (simp only [List.getElem_toArray, List.getElem_cons_zero, List.getElem_cons_succ]; go_simp; first | done | with_reducible rfl)) ?_; simp only [Act.put, List.getElem_toArray, List.getElem_cons_zero, List.getElem_cons_succ, List.setIfInBounds_toArray, List.set_cons_zero, List.set_cons_succ])
        | (refine O_pass _ rfl (by rfl) (fun _ _ _ h => h) (by assumption) ?_; simp only [Act.put, List.getElem_toArray, List.getElem_cons_zero, List.getElem_cons_succ, List.setIfInBounds_toArray, List.set_cons_zero, List.set_cons_succ])
        | (refine O_idle _ rfl (by rfl) (by assumption) ?_; simp only [Act.put, List.getElem_toArray, List.getElem_cons_zero, List.getElem_cons_succ, List.setIfInBounds_toArray, List.set_cons_zero, List.set_cons_succ]))
      refine O_nil ?_
      have HB9 := Lib.hid hS.1
      clear hS HS
      (try simp only [NoPanic])
      go_wp2_with fail
      go_ret
      exact ⟨rfl, HB9.out⟩
    focus
      have hz6 : ¬ ((r : Int) = 3) := by omega
      have hz7 : ((r : Int) == 3) = false := by simpa using hz6
      have AGL := AG1.out
      clear AG0 AG1 AG2
      obtain ⟨x, e1, e2, u1, u2, is, eb, ib, R1, R2, E1, E2, I1, I2⟩ := AGL
      have R1 := Lib.hid R1
      have R2 := Lib.hid R2
      have E1 := Lib.hid E1
      have E2 := Lib.hid E2
      have I1 := Lib.hid I1
      have I2 := Lib.hid I2
      go_wp2_with fail
      (with_reducible refine (R1.out _).mono ?_)
      rintro e wa ⟨rfl, hb⟩
      have HBa := Lib.hid ((HB0.out.step hb).alloc (.cells #[.int .u64 (e1 : Int), .int .u64 (e2 : Int)] 24))
      have HNa := Lib.hid ((HN0.out.bel hb).alloc (.cells #[.int .u64 (e1 : Int), .int .u64 (e2 : Int)] 24))
      have HXa := Lib.hid (Blk.new wa 24 #[.int .u64 (e1 : Int), .int .u64 (e2 : Int)])
      clear HB0 HN0 hb R1
      go_wp2_with fail
      (with_reducible refine (R2.out _).mono ?_)
      rintro e wb ⟨rfl, hb⟩
      have HBb := Lib.hid ((HBa.out.step hb).alloc (.cells #[.string x, .int .u64 (e1 : Int), .int .u64 (e2 : Int), .bool is] 35))
      have HNb := Lib.hid ((HNa.out.bel hb).alloc (.cells #[.string x, .int .u64 (e1 : Int), .int .u64 (e2 : Int), .bool is] 35))
      have HXb := Lib.hid ((HXa.out.bel hb).alloc (.cells #[.string x, .int .u64 (e1 : Int), .int .u64 (e2 : Int), .bool is] 35))
      have HGb := Lib.hid (Blk.new wb 35 #[.string x, .int .u64 (e1 : Int), .int .u64 (e2 : Int), .bool is])
      clear HBa HNa HXa hb R2
      go_wp2_with fail
      (with_reducible refine (E1.out _).mono ?_)
      rintro e wc ⟨rfl, hb⟩
      have HBc := Lib.hid ((HBb.out.step hb).alloc (.cells #[.int .u64 (u1 : Int), .int .u64 (u2 : Int)] 24))
      have HNc := Lib.hid ((HNb.out.bel hb).alloc (.cells #[.int .u64 (u1 : Int), .int .u64 (u2 : Int)] 24))
      have HXc := Lib.hid ((HXb.out.bel hb).alloc (.cells #[.int .u64 (u1 : Int), .int .u64 (u2 : Int)] 24))
      have HGc := Lib.hid ((HGb.out.bel hb).alloc (.cells #[.int .u64 (u1 : Int), .int .u64 (u2 : Int)] 24))
      have HUc := Lib.hid (Blk.new wc 24 #[.int .u64 (u1 : Int), .int .u64 (u2 : Int)])
      clear HBb HNb HXb HGb hb E1
      go_wp2_with fail
      (with_reducible refine (E2.out _).mono ?_)
      rintro e wd ⟨rfl, hb⟩
      have HBd := Lib.hid ((HBc.out.step hb).alloc (.cells #[.int .u64 (u1 : Int), .int .u64 (u2 : Int)] 24))
      have HNd := Lib.hid ((HNc.out.bel hb).alloc (.cells #[.int .u64 (u1 : Int), .int .u64 (u2 : Int)] 24))
      have HXd := Lib.hid ((HXc.out.bel hb).alloc (.cells #[.int .u64 (u1 : Int), .int .u64 (u2 : Int)] 24))
      have HGd := Lib.hid ((HGc.out.bel hb).alloc (.cells #[.int .u64 (u1 : Int), .int .u64 (u2 : Int)] 24))
      have HUd := Lib.hid ((HUc.out.bel hb).alloc (.cells #[.int .u64 (u1 : Int), .int .u64 (u2 : Int)] 24))
      have HVd := Lib.hid (Blk.new wd 24 #[.int .u64 (u1 : Int), .int .u64 (u2 : Int)])
      clear HBc HNc HXc HGc HUc hb E2
      go_upto_region 15 with fail
      generalize wd.alloc (.cells #[.int .u64 (u1 : Int), .int .u64 (u2 : Int)] 24) = wz at *
      have hS : Bel w wz.drew ∧ (wz.drew.cell? ⟨w.heap.size, 0, none⟩ = some (.int .u64 (t1 : Int)) ∧ wz.drew.cell? ⟨w.heap.size, 1, none⟩ = some (.int .u64 (t2 : Int))) ∧ (wz.drew.cell? ⟨wa.heap.size, 0, none⟩ = some (.int .u64 (e1 : Int)) ∧ wz.drew.cell? ⟨wa.heap.size, 1, none⟩ = some (.int .u64 (e2 : Int))) ∧ (wz.drew.cell? ⟨wb.heap.size, 0, none⟩ = some (.string x) ∧ wz.drew.cell? ⟨wb.heap.size, 1, none⟩ = some (.int .u64 (e1 : Int)) ∧ wz.drew.cell? ⟨wb.heap.size, 2, none⟩ = some (.int .u64 (e2 : Int)) ∧ wz.drew.cell? ⟨wb.heap.size, 3, none⟩ = some (.bool is)) ∧ (wz.drew.cell? ⟨wc.heap.size, 0, none⟩ = some (.int .u64 (u1 : Int)) ∧ wz.drew.cell? ⟨wc.heap.size, 1, none⟩ = some (.int .u64 (u2 : Int))) ∧ (wz.drew.cell? ⟨wd.heap.size, 0, none⟩ = some (.int .u64 (u1 : Int)) ∧ wz.drew.cell? ⟨wd.heap.size, 1, none⟩ = some (.int .u64 (u2 : Int))) := ⟨HBd.out.drew, HNd.out.drew.two, HXd.out.drew.two, HGd.out.drew.four, HUd.out.drew.two, HVd.out.drew.two⟩
      have HS := Lib.hid fun (w' w'' : World) (h : Bel w w' ∧ (w'.cell? ⟨w.heap.size, 0, none⟩ = some (.int .u64 (t1 : Int)) ∧ w'.cell? ⟨w.heap.size, 1, none⟩ = some (.int .u64 (t2 : Int))) ∧ (w'.cell? ⟨wa.heap.size, 0, none⟩ = some (.int .u64 (e1 : Int)) ∧ w'.cell? ⟨wa.heap.size, 1, none⟩ = some (.int .u64 (e2 : Int))) ∧ (w'.cell? ⟨wb.heap.size, 0, none⟩ = some (.string x) ∧ w'.cell? ⟨wb.heap.size, 1, none⟩ = some (.int .u64 (e1 : Int)) ∧ w'.cell? ⟨wb.heap.size, 2, none⟩ = some (.int .u64 (e2 : Int)) ∧ w'.cell? ⟨wb.heap.size, 3, none⟩ = some (.bool is)) ∧ (w'.cell? ⟨wc.heap.size, 0, none⟩ = some (.int .u64 (u1 : Int)) ∧ w'.cell? ⟨wc.heap.size, 1, none⟩ = some (.int .u64 (u2 : Int))) ∧ (w'.cell? ⟨wd.heap.size, 0, none⟩ = some (.int .u64 (u1 : Int)) ∧ w'.cell? ⟨wd.heap.size, 1, none⟩ = some (.int .u64 (u2 : Int)))) (hb : Below w'.heap.size w' w'') => (show Bel w w'' ∧ (w''.cell? ⟨w.heap.size, 0, none⟩ = some (.int .u64 (t1 : Int)) ∧ w''.cell? ⟨w.heap.size, 1, none⟩ = some (.int .u64 (t2 : Int))) ∧ (w''.cell? ⟨wa.heap.size, 0, none⟩ = some (.int .u64 (e1 : Int)) ∧ w''.cell? ⟨wa.heap.size, 1, none⟩ = some (.int .u64 (e2 : Int))) ∧ (w''.cell? ⟨wb.heap.size, 0, none⟩ = some (.string x) ∧ w''.cell? ⟨wb.heap.size, 1, none⟩ = some (.int .u64 (e1 : Int)) ∧ w''.cell? ⟨wb.heap.size, 2, none⟩ = some (.int .u64 (e2 : Int)) ∧ w''.cell? ⟨wb.heap.size, 3, none⟩ = some (.bool is)) ∧ (w''.cell? ⟨wc.heap.size, 0, none⟩ = some (.int .u64 (u1 : Int)) ∧ w''.cell? ⟨wc.heap.size, 1, none⟩ = some (.int .u64 (u2 : Int))) ∧ (w''.cell? ⟨wd.heap.size, 0, none⟩ = some (.int .u64 (u1 : Int)) ∧ w''.cell? ⟨wd.heap.size, 1, none⟩ = some (.int .u64 (u2 : Int))) from by
        obtain ⟨h1, ⟨h2, h3⟩, ⟨h4, h5⟩, ⟨h6, h7, h8, h9⟩, ⟨h10, h11⟩, h12, h13⟩ := h
        exact ⟨h1.step hb, ⟨Bel.keep hb h2, Bel.keep hb h3⟩, ⟨Bel.keep hb h4, Bel.keep hb h5⟩, ⟨Bel.keep hb h6, Bel.keep hb h7, Bel.keep hb h8, Bel.keep hb h9⟩, ⟨Bel.keep hb h10, Bel.keep hb h11⟩, Bel.keep hb h12, Bel.keep hb h13⟩)
      clear HBd HNd HXd HGd HUd HVd
      refine wp_region_ord [(0, false, true), (1, false, true), (2, false, true), (3, false, true), (4, false, true), (5, false, true), (6, false, true), (7, false, true), (8, false, true), (9, false, true), (10, false, true), (11, false, true), (12, false, true), (13, false, true), (14, false, true), (15, false, true), (16, false, true), (17, false, true), (18, false, true), (19, false, true), (20, false, true), (21, false, true), (22, false, true), (23, false, true), (24, false, true), (25, false, true), (26, false, true), (27, false, true), (28, false, true), (29, false, true), (30, false, true), (31, false, true), (33, false, true), (34, false, true), (32, true, true), (35, true, true), (36, false, true), (37, false, true), (38, false, true)]
        (fun w' => Bel w w' ∧ (w'.cell? ⟨w.heap.size, 0, none⟩ = some (.int .u64 (t1 : Int)) ∧ w'.cell? ⟨w.heap.size, 1, none⟩ = some (.int .u64 (t2 : Int))) ∧ (w'.cell? ⟨wa.heap.size, 0, none⟩ = some (.int .u64 (e1 : Int)) ∧ w'.cell? ⟨wa.heap.size, 1, none⟩ = some (.int .u64 (e2 : Int))) ∧ (w'.cell? ⟨wb.heap.size, 0, none⟩ = some (.string x) ∧ w'.cell? ⟨wb.heap.size, 1, none⟩ = some (.int .u64 (e1 : Int)) ∧ w'.cell? ⟨wb.heap.size, 2, none⟩ = some (.int .u64 (e2 : Int)) ∧ w'.cell? ⟨wb.heap.size, 3, none⟩ = some (.bool is)) ∧ (w'.cell? ⟨wc.heap.size, 0, none⟩ = some (.int .u64 (u1 : Int)) ∧ w'.cell? ⟨wc.heap.size, 1, none⟩ = some (.int .u64 (u2 : Int))) ∧ (w'.cell? ⟨wd.heap.size, 0, none⟩ = some (.int .u64 (u1 : Int)) ∧ w'.cell? ⟨wd.heap.size, 1, none⟩ = some (.int .u64 (u2 : Int)))) (by kernel_rfl) (by kernel_rfl) (by decide) (by kernel_rfl) ?_
      repeat (first
        | (refine O_take _ _ rfl (by rfl) (fun _ _ _ h => h) (by assumption) (fun w hSw => by (simp only [List.getElem_toArray, List.getElem_cons_zero, List.getElem_cons_succ]; go_simp; first | done | with_reducible rfl)) ?_; simp only [Act.put, List.getElem_toArray, List.getElem_cons_zero, List.getElem_cons_succ, List.setIfInBounds_toArray, List.set_cons_zero, List.set_cons_succ])
        | (refine O_pass _ rfl (by rfl) (fun _ _ _ h => h) (by assumption) ?_; simp only [Act.put, List.getElem_toArray, List.getElem_cons_zero, List.getElem_cons_succ, List.setIfInBounds_toArray, List.set_cons_zero, List.set_cons_succ])
        | (refine O_idle _ rfl (by rfl) (by assumption) ?_; simp only [Act.put, List.getElem_toArray, List.getElem_cons_zero, List.getElem_cons_succ, List.setIfInBounds_toArray, List.set_cons_zero, List.set_cons_succ]))
      refine O_act _ rfl (by rfl) (fun K' hK => ?_)
      simp only [List.getElem_toArray, List.getElem_cons_zero, List.getElem_cons_succ]
      go_simp
      (with_reducible refine (I1.out _).mono ?_)
      rintro e w8 ⟨rfl, hb⟩
      have hS := HS.out _ _ hS hb
      refine hK _ _ hS ?_
      clear hK K' hb
      repeat (first
        | (refine O_take _ _ rfl (by rfl) (fun _ _ _ h => h) (by assumption) (fun w hSw => by (simp only [List.getElem_toArray, List.getElem_cons_zero, List.getElem_cons_succ]; go_simp; first | done | with_reducible rfl)) ?_; simp only [Act.put, List.getElem_toArray, List.getElem_cons_zero, List.getElem_cons_succ, List.setIfInBounds_toArray, List.set_cons_zero, List.set_cons_succ])
        | (refine O_pass _ rfl (by rfl) (fun _ _ _ h => h) (by assumption) ?_; simp only [Act.put, List.getElem_toArray, List.getElem_cons_zero, List.getElem_cons_succ, List.setIfInBounds_toArray, List.set_cons_zero, List.set_cons_succ])
        | (refine O_idle _ rfl (by rfl) (by assumption) ?_; simp only [Act.put, List.getElem_toArray, List.getElem_cons_zero, List.getElem_cons_succ, List.setIfInBounds_toArray, List.set_cons_zero, List.set_cons_succ]))
      refine O_act _ rfl (by rfl) (fun K' hK => ?_)
      simp only [List.getElem_toArray, List.getElem_cons_zero, List.getElem_cons_succ]
      go_simp
      (with_reducible refine (I2.out _).mono ?_)
      rintro e w9 ⟨rfl, hb⟩
      have hS := HS.out _ _ hS hb
      refine hK _ _ hS ?_
      clear hK K' hb
      repeat (first
        | (refine O_take _ _ rfl (by rfl) (fun _ _ _ h => h) (by assumption) (fun w hSw => by (simp only [List.getElem_toArray, List.getElem_cons_zero, List.getElem_cons_succ]; go_simp; first | done | with_reducible rfl)) ?_; simp only [Act.put, List.getElem_toArray, List.getElem_cons_zero, List.getElem_cons_succ, List.setIfInBounds_toArray, List.set_cons_zero, List.set_cons_succ])
        | (refine O_pass _ rfl (by rfl) (fun _ _ _ h => h) (by assumption) ?_; simp only [Act.put, List.getElem_toArray, List.getElem_cons_zero, List.getElem_cons_succ, List.setIfInBounds_toArray, List.set_cons_zero, List.set_cons_succ])
        | (refine O_idle _ rfl (by rfl) (by assumption) ?_; simp only [Act.put, List.getElem_toArray, List.getElem_cons_zero, List.getElem_cons_succ, List.setIfInBounds_toArray, List.set_cons_zero, List.set_cons_succ]))
      refine O_nil ?_
      have HB9 := Lib.hid hS.1
      clear hS HS
      (try simp only [NoPanic])
      go_wp2_with fail
      go_ret
      exact ⟨rfl, HB9.out⟩

namespace SectorReads
theorem params : ∀ t ∈ Tryd.f3.params.toList, Tryd.prog.readableRec t = true ∧ t < Tryd.prog.types.size := by
  have h : (Tryd.f3.params.toList.all fun t => Tryd.prog.readableRec t && decide (t < Tryd.prog.types.size)) = true := by kernel_rfl
  intro t ht
  have := List.all_eq_true.1 h t ht
  simpa using this
set_option maxRecDepth 100000 in
theorem lifted (os : Os) (started : os.Started) (H : Type) (enc : TypeId × Value → H) :
    ReturnsInHanded {} Tryd.checked os 3 .any (fun w args => (Rows.sectorReadsSpec.pre enc Tryd.prog Tryd.f3 [] false w args ∧ laidMetH Tryd.prog laidS w) ∧ sizedMet enc Tryd.prog Tryd.f3 (OpenSpec.ofChange Rows.sectorReadsSpec) false w args) (Rows.sectorReadsSpec.post enc Tryd.prog Tryd.f3 false true false false) := by
  refine returnsInHanded_of_change_and (C := Tryd.checked) (X := fun w _ => laidMetH Tryd.prog laidS w) (fun _ _ _ hh h => h.of_heap hh) Tryd.own started (by kernel_rfl) Tryd.func3
    (ChangeSpec.witness_shaped (enc := enc) (C := Tryd.checked) (os := os) (X := fun w _ => laidMetH Tryd.prog laidS w) false (World.laidAll Tryd.prog os laidS) #[.string ⟨#[]⟩, .agg #[.int .u64 0, .int .u64 0], .agg #[.int .i64 0, .int .i64 0, .int .i64 0]] 8 (World.laidAll_os _ _ _)
      (World.shaped_of_ZipB (by kernel_rfl) (by kernel_rfl)) (by kernel_rfl) (by kernel_rfl) (by kernel_rfl) (laid_met os _)) ?_
  intro W base args ds gs before hval0 hW _ _ _ _
  have hval : ∀ (j : Nat) t v, Tryd.f3.params[j]? = some t → args[j]? = some v → Value.okWide Tryd.prog W .any base t v := hval0
  have hW' := hW
  obtain ⟨p, q, hA0, hV, rfl, hfz, hnd⟩ := hW
  have hA : DataW.TrodAll enc Tryd.prog W 0 (fun _ => true) true Tryd.f3.params.toList args.toList ds p := hA0
  rw [Tryd.params3] at hA hval
  obtain ⟨v0, v1, v2, d0, d1, d2, p0, p1, p2, rfl, rfl, rfl, h0, h1, h2⟩ := trodAll_three hA
  obtain ⟨rfl, rfl⟩ := trodVars_none hV
  obtain ⟨s0, rfl, _, _, hs0⟩ := open_string Tryd.underlying9 (hval 0 9 v0 rfl rfl) h0
  obtain ⟨a1, a2, rfl, ha1, ha2⟩ := open_tag (hval 1 24 v1 rfl rfl) h1
  obtain ⟨q0, q1, q2, rfl⟩ := open_three (P := Tryd.prog) (k := 25) (e := 3) ⟨Tryd.underlying25, by kernel_rfl, by kernel_rfl, by kernel_rfl⟩ Tryd.underlying3 (hval 2 25 v2 rfl rfl) h2
  have hsL : s0.data.toList.length ≤ 9223372036854775807 := by unfold maxLen at hs0; exact hs0
  obtain ⟨l0, rfl⟩ : ∃ l, s0 = strOf l := ⟨s0.data.toList, by unfold strOf; simp⟩
  refine (reads_walk l0 (by simpa [strOf] using hsL) a1 a2 ha1 ha2 q0 q1 q2 W).mono fun e W' ⟨he, hb⟩ => ?_
  subst he
  exact ⟨_, rfl, law_end Tryd.laidOut params rfl Tryd.underlying4 rfl hW' rfl rfl rfl hb⟩
theorem holds : Rows.SectorReadsSaid :=
  OpenClaim.holds_of_wide 3 Tryd.f3 rfl rfl rfl rfl rfl rfl rfl ⟨rfl, rfl, rfl, rfl, rfl⟩ rfl rfl rfl rfl rfl (by kernel_rfl) Tryd.func3 (by kernel_rfl)
    (of_decide_eq_true (by kernel_rfl)) (by unfold Func.isWrapper; first | (rw [if_pos (by decide +kernel)]; kernel_rfl) | (rw [if_neg (by decide +kernel)]; exact ⟨rfl, rfl⟩))
    (fun os started H enc _ => lifted os started H enc)
theorem card_holds : Rows.SectorReadsCardSaid :=
  Claim7.holds_tied_plain_at .later [] [.data, .pinned] true Rows.sectorReadsCard.stood.harness false holds (fun _ h => by cases h) (by kernel_rfl) (fun _ h => by cases h) sectorReads_row_tie rfl ⟨rfl, rfl⟩ (by kernel_rfl) rfl
    (fun f fn hf hfn => by
      obtain rfl : f = 3 := Option.some.inj ((show Tryd.prog.funcNamed "vendue/venduelaw03.SectorReads" = some 3 by kernel_rfl).symm.trans hf) |>.symm
      obtain rfl : fn = Tryd.f3 := (Option.some.inj (Tryd.func3.symm.trans hfn)).symm
      exact ⟨by kernel_rfl, fun j t ht => by
        have hm : t ∈ Tryd.f3.params := Array.mem_of_getElem? ht
        have hall : (Tryd.f3.params.toList.all fun u => !Tryd.prog.wantsStandIn u) = true := by kernel_rfl
        exact (show Tryd.prog.wantsStandIn t = false by simpa using List.all_eq_true.1 hall t (by simpa using hm))⟩)
    (by kernel_rfl)
end SectorReads
end Go.Proofs.YtmcnoekpblkpdaaDoor
