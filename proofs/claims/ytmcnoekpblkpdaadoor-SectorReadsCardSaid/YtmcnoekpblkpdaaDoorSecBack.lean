/- SectorBack: whatever piece and tag come in: the piece comes back from its sector, with its tag; turned in one byte behind the first one it is none: the law returns true, and leaves its arguments as they were. No condition beside the row's own. -/
import Derived.Test.YtmcnoekpblkpdaaDoorSecEnds
import Derived.WideKeyPair
import Derived.Lib.ConvBytes
import Derived.Laws.BitsAllLaws
namespace Go.Proofs.YtmcnoekpblkpdaaDoor
open Go.ChangeShapes Go.WideShapes Go.ChangeAt Go.RowKit Go.ChangeMaps

theorem tmod_127 (n : Int) : (n.tmod 127 + 127) % 127 = (((n % 127).toNat : Nat) : Int) ∧ (n % 127).toNat ≤ 126 := by
  have h1 : (n.tmod 127 + 127) % 127 = n % 127 := by
    rw [Int.tmod_eq_emod, Int.add_emod_right]
    split
    · simp
    · rw [Int.sub_emod, Int.emod_emod]
      have : ((127 : Int).natAbs : Int) = 127 := rfl
      rw [this, Int.emod_self, Int.sub_zero, Int.emod_emod]
  omega
theorem str_eq_self (s : ByteArray) : (s.toList == s.toList) = true := by simp
/-- The row that '[]byte(s)' makes. -/
theorem bytes_new (w : World) (s : List UInt8) (j : Nat) (hj : j < s.length) : (Lib.bytesWorld w 5 (strOf s)).cell? ⟨w.heap.size, j, none⟩ = some (.int .u8 (s[j].toNat : Int)) ∧ (Lib.bytesWorld w 5 (strOf s)).frozen? ⟨w.heap.size, j, none⟩ = false := by
  have h1 := Lib.bytesWorld_cell w 5 (strOf s) j hj
  have h2 := Lib.bytesWorld_at_new w 5 (strOf s)
  refine ⟨?_, ?_⟩
  · rw [h1]
    have : (strOf s).data.toList = s := by simp [strOf]
    rw [this]
    simp [List.getD, hj]
  · have hs : s.length ≤ (Lib.bytesCells w 5 (strOf s)).size := by
      simp [Lib.bytesCells, strOf]
    unfold World.frozen?
    simp only [h2]
    simp
    omega
theorem bytes_bel (w : World) (s : List UInt8) : Bel w (Lib.bytesWorld w 5 (strOf s)) :=
  ⟨rfl, rfl, rfl, by rw [Lib.bytesWorld_size]; omega, fun k hk => Lib.bytesWorld_at_old w _ _ k hk⟩
theorem conv_set (w : World) (g : Nat) (s : List UInt8) (cap : Nat) (h : ∀ j (hj : j < s.length), w.cell? ⟨g, j, none⟩ = some (.int .u8 (s[j].toNat : Int))) (hL : s.length = 128) :
    (convert 31 9 (.slice (some ⟨g, 0, none⟩) 128 cap)).run Tryd.prog w = .ok (.string (strOf s)) w := by
  have := run_convert_bytes_arg (P := Tryd.prog) w 31 5 Tryd.underlying31 Tryd.underlying5 g 0 128 cap (s.map fun c => (c.toNat : Int)) (by simpa using hL) (fun i hi => by
    rw [Nat.zero_add, h i (by omega)]
    simp [List.getD, show i < s.length by omega]) 9 Tryd.underlying9
  rwa [strOfNums_bytes] at this
theorem xor_byte (c : UInt8) (q : Int) : bits .xor .u8 (c.toNat : Int) (IntKind.u8.wrap q) = (((c ^^^ UInt8.ofNat (q % 256).toNat).toNat : Nat) : Int) := by
  have hc : c.toNat < 256 := c.toNat_lt
  have h0 := Int.emod_nonneg q (show (256 : Int) ≠ 0 by decide)
  have h1 := Int.emod_lt_of_pos q (show (0 : Int) < 256 by decide)
  have hw : IntKind.u8.wrap q = (((q % 256).toNat : Nat) : Int) := by simp [IntKind.wrap, IntKind.bits, IntKind.signed]; omega
  rw [hw, u8_xor_nat _ _ hc (by omega)]
  congr 1
  rw [UInt8.toNat_xor, UInt8.toNat_ofNat', Nat.mod_eq_of_lt (by omega)]
theorem xor_self_iff (c d : UInt8) : c ^^^ d = c ↔ d = 0 := by
  constructor
  · intro h
    have := congrArg (fun x => c ^^^ x) h
    simpa [← UInt8.xor_assoc] using this
  · rintro rfl; simp
set_option maxHeartbeats 1000000 in
set_option maxRecDepth 100000 in
theorem back_walk (p0 : List UInt8) (hp0 : p0.length ≤ 9223372036854775807) (t1 t2 : Nat) (ht1 : t1 < 18446744073709551616) (ht2 : t2 < 18446744073709551616) (q0 q1 : Int) (w : World) :
    Calls Tryd.prog 4 #[.string (strOf p0), .agg #[.int .u64 (t1 : Int), .int .u64 (t2 : Int)], .agg #[.int .i64 q0, .int .i64 q1]] w fun e w' => e = .returned (.bool true) ∧ Below w.heap.size w w' := by
  have HA := Lib.hid fun w => awake_any w
  have SH : Hid (∀ w, Calls Tryd.prog 10 #[.string (strOf p0), .int .i64 107] w fun e w' => e = .returned (.string (strOf (p0.take 107))) ∧ w = w') := Lib.hid fun w => short_any p0 107 w hp0
  have hp : (p0.take 107).length ≤ 107 := List.length_take_le _ _
  generalize p0.take 107 = p at *
  have M1 : Hid (∀ w, Calls Tryd.prog 18 #[.string (strOf p), .agg #[.int .u64 (t1 : Int), .int .u64 (t2 : Int)]] w fun e w' => e = .returned (.tuple #[.string (strOf (secMake p (t1, t2))), .int .i64 0]) ∧ Below w.heap.size w w') := Lib.hid fun w => make_any p hp (t1, t2) w
  obtain ⟨hk1, hk2⟩ := tmod_127 q0
  have HK := Lib.hid hk1
  have b1 := Int.tmod_lt_of_pos q0 (show (0 : Int) < 127 by decide)
  have b2 := Int.lt_tmod_of_pos q0 (show (0 : Int) < 127 by decide)
  clear hk1
  generalize (q0 % 127).toNat = k0 at *
  have hL := secMake_length p (t1, t2) hp
  have R1 : Hid (∀ w, Calls Tryd.prog 12 #[.string (strOf (secMake p (t1, t2)))] w fun e w' => e = .returned (.tuple #[.string (strOf p), .agg #[.int .u64 (t1 : Int), .int .u64 (t2 : Int)], .bool true]) ∧ Below w.heap.size w w') := Lib.hid fun w => by
    have := read_any (secMake p (t1, t2)) w
    rw [read_make p (t1, t2) hp ht1 ht2] at this
    exact this
  obtain ⟨k, hk⟩ : ∃ k, 1 + k0 = k := ⟨_, rfl⟩
  have hk3 : k < 128 := by omega
  have hkI : 1 + (k0 : Int) = (k : Int) := by omega
  have HKI : Hid (1 + q0.tmod 127 % 127 = (k : Int)) := Lib.hid (by have := HK.out; rw [Int.add_emod_right] at this; omega)
  have hkL : k < (secMake p (t1, t2)).length := by omega
  have XB := Lib.hid (xor_byte (secMake p (t1, t2))[k] q1)
  obtain ⟨c, hc⟩ : ∃ c, (secMake p (t1, t2))[k] ^^^ UInt8.ofNat (q1 % 256).toNat = c := ⟨_, rfl⟩
  rw [hc] at XB
  have hq0 := Int.emod_nonneg q1 (show (256 : Int) ≠ 0 by decide)
  have hq1 := Int.emod_lt_of_pos q1 (show (0 : Int) < 256 by decide)
  have hwq : IntKind.u8.wrap q1 = q1 % 256 := by simp [IntKind.wrap, IntKind.bits, IntKind.signed]
  have hzero : UInt8.ofNat (q1 % 256).toNat = 0 ↔ q1 % 256 = 0 := by
    constructor
    · intro h
      have := congrArg UInt8.toNat h
      rw [UInt8.toNat_ofNat'] at this
      simp at this
      omega
    · intro h; rw [h]; rfl
  have hself := xor_self_iff (secMake p (t1, t2))[k] (UInt8.ofNat (q1 % 256).toNat)
  rw [hc, hzero] at hself
  have RT : Hid (∀ w, Calls Tryd.prog 12 #[.string (strOf ((secMake p (t1, t2)).set k c))] w fun e w' => e = .returned (readV (if q1 % 256 = 0 then some (p, (t1, t2)) else none)) ∧ Below w.heap.size w w') := Lib.hid fun w => by
    have := read_any ((secMake p (t1, t2)).set k c) w
    have e : secRead ((secMake p (t1, t2)).set k c) = if q1 % 256 = 0 then some (p, (t1, t2)) else none := by
      by_cases h : q1 % 256 = 0
      · rw [if_pos h, hself.2 h, List.set_getElem_self, read_make p (t1, t2) hp ht1 ht2]
      · rw [if_neg h]
        refine turn_none p (t1, t2) hp ht1 ht2 k (by omega) hk3 c ?_
        rw [List.getElem?_eq_getElem hkL]
        intro hh
        injection hh with hh
        exact h (hself.1 hh.symm)
    rwa [e] at this
  have CV : Hid (∀ w : World, (convert 9 31 (.string (strOf (secMake p (t1, t2))))).run Tryd.prog w = .ok (.slice (some ⟨w.heap.size, 0, none⟩) 128 (grownCap w 128 0 5)) (Lib.bytesWorld w 5 (strOf (secMake p (t1, t2))))) := Lib.hid fun w => by
    have := Lib.run_convert_string_bytes (P := Tryd.prog) w 9 31 5 (strOf (secMake p (t1, t2))) Tryd.underlying9 Tryd.underlying31 Tryd.underlying5
    rw [strOf_size, hL] at this
    exact this
  have BN := Lib.hid fun w j hj => bytes_new w (secMake p (t1, t2)) j hj
  have BB := Lib.hid fun w => bytes_bel w (secMake p (t1, t2))
  have CS : Hid (∀ (w W : World) cap, (∀ j (hj : j < (secMake p (t1, t2)).length), W.cell? ⟨w.heap.size, j, none⟩ = some (.int .u8 ((secMake p (t1, t2))[j].toNat : Int))) →
      (∃ v, W.cell? ⟨w.heap.size, k, none⟩ = some v) → (convert 31 9 (.slice (some ⟨w.heap.size, 0, none⟩) 128 cap)).run Tryd.prog (W.setCell ⟨w.heap.size, k, none⟩ (.int .u8 (c.toNat : Int))) = .ok (.string (strOf ((secMake p (t1, t2)).set k c))) (W.setCell ⟨w.heap.size, k, none⟩ (.int .u8 (c.toNat : Int)))) := Lib.hid fun w W cap hcell hv => by
    refine conv_set _ _ _ cap (fun j hj => ?_) (by simpa using hL)
    have hj' : j < (secMake p (t1, t2)).length := by simpa using hj
    rw [List.getElem_set]
    split
    · rename_i hjk; subst hjk
      obtain ⟨v, hv⟩ := hv
      exact World.cell?_setCell_same (h := hv) ..
    · rename_i hjk
      rw [World.cell?_setCell_other (h := fun e => hjk (by injection e)) ..]
      exact hcell j hj'
  have hck : (secMake p (t1, t2))[k].toNat < 256 := UInt8.toNat_lt _
  have HCK : Hid ((secMake p (t1, t2))[k].toNat = ((secMake p (t1, t2))[k]).toNat) := Lib.hid rfl
  have RV1 : Hid (readV (some (p, (t1, t2))) = .tuple #[.string (strOf p), .agg #[.int .u64 (t1 : Int), .int .u64 (t2 : Int)], .bool true]) := Lib.hid rfl
  clear hp hp0 ht1 ht2 hc hself hzero hk2
  have za : (strOf (secMake p (t1, t2))).size = 128 := hL
  have BNk := Lib.hid fun w => BN.out w k hkL
  generalize strOf ((secMake p (t1, t2)).set k c) = sc at *
  clear HCK
  generalize (secMake p (t1, t2))[k] = ck at *
  generalize hSA : strOf (secMake p (t1, t2)) = sa at *
  have HSA := Lib.hid hSA
  clear hSA hL hkL
  generalize strOf p = sp at *
  generalize strOf p0 = sp0 at *
  go_enter Tryd.func4, Tryd.ntmps4
  go_wp2_with fail
  (with_reducible refine (HA.out _).mono ?_)
  rintro e w1 ⟨rfl, hb⟩
  have hN := ((Blk.new w 24 #[.int .u64 (t1 : Int), .int .u64 (t2 : Int)]).alloc (.cells #[.int .i64 q0, .int .i64 q1] 41)).bel hb
  have hM := (Blk.new (w.alloc (.cells #[.int .u64 (t1 : Int), .int .u64 (t2 : Int)] 24)) 41 #[.int .i64 q0, .int .i64 q1]).bel hb
  rw [World.size_alloc] at hM
  have HB := Lib.hid ((((Bel.refl w).alloc (.cells #[.int .u64 (t1 : Int), .int .u64 (t2 : Int)] 24)).alloc (.cells #[.int .i64 q0, .int .i64 q1] 41)).step hb)
  obtain ⟨c0, c1⟩ := hN.two
  have HN := Lib.hid hN
  have HM := Lib.hid hM
  clear hN hM hb
  go_wp2_with fail
  (with_reducible refine (SH.out _).mono ?_)
  rintro e w2 ⟨rfl, rfl⟩
  go_wp2_with fail
  (with_reducible refine (M1.out _).mono ?_)
  rintro e w2 ⟨rfl, hb⟩
  have HN2 := Lib.hid (HN.out.bel hb)
  have HM2 := Lib.hid (HM.out.bel hb)
  have HB2 := Lib.hid (HB.out.step hb)
  clear c0 c1 HN HM HB hb
  go_wp2_with fail
  (with_reducible refine (R1.out _).mono ?_)
  rintro e w3 ⟨rfl, hb⟩
  have HN3 := Lib.hid ((HN2.out.bel hb).alloc (.cells #[.int .u64 (t1 : Int), .int .u64 (t2 : Int)] 24))
  have HM3 := Lib.hid ((HM2.out.bel hb).alloc (.cells #[.int .u64 (t1 : Int), .int .u64 (t2 : Int)] 24))
  have HX3 := Lib.hid (Blk.new w3 24 #[.int .u64 (t1 : Int), .int .u64 (t2 : Int)])
  have HB3 := Lib.hid ((HB2.out.step hb).alloc (.cells #[.int .u64 (t1 : Int), .int .u64 (t2 : Int)] 24))
  clear HN2 HM2 HB2 hb
  go_upto_region 7 with fail
  generalize hg3 : w3.alloc (.cells #[.int .u64 (t1 : Int), .int .u64 (t2 : Int)] 24) = w4 at *
  clear hg3
  have hcv := CV.out
  go_upto_region 8 with fail
  clear hcv
  have hbb := BB.out w4
  have hbn := BNk.out w4
  have HAL : Hid (∀ j (hj : j < (secMake p (t1, t2)).length), (Lib.bytesWorld w4 5 sa).cell? ⟨w4.heap.size, j, none⟩ = some (.int .u8 ((secMake p (t1, t2))[j].toNat : Int))) := Lib.hid fun j hj => by
    exact (BN.out w4 j hj).1
  have hgs : w4.heap.size < (Lib.bytesWorld w4 5 sa).heap.size := by rw [Lib.bytesWorld_size]; omega
  have HN5 := Lib.hid (HN3.out.bel hbb)
  have HM5 := Lib.hid (HM3.out.bel hbb)
  have HX5 := Lib.hid (HX3.out.bel hbb)
  have HB5 := Lib.hid (HB3.out.step hbb)
  have CS4 := Lib.hid (CS.out w4)
  have hwg : w.heap.size ≤ w4.heap.size := HB3.out.size
  have lN : w.heap.size ≠ w4.heap.size := by have := HN3.out.lt; omega
  have lM : w.heap.size + 1 ≠ w4.heap.size := by have := HM3.out.lt; omega
  have lX : w3.heap.size ≠ w4.heap.size := by have := HX3.out.lt; omega
  clear hbb HN3 HM3 HX3 HB3 CS
  generalize grownCap w4 128 0 5 = cap at *
  generalize Lib.bytesWorld w4 5 sa = w5 at *
  generalize w4.heap.size = g at *
  obtain ⟨m0, m1⟩ := HM5.out.two
  obtain ⟨n0, n1⟩ := hbn
  go_upto_region 9 with fail
  rw [HKI.out]
  clear b1 b2
  have hk0 : (0 : Int) ≤ (k : Int) := by omega
  have hk1 : (k : Int) < 128 := by omega
  have hxb := XB.out
  rw [hwq] at hxb
  refine wp_region_ord [(0, false, true), (1, false, true), (2, false, true), (3, false, true), (4, false, true), (5, false, true), (6, false, true), (7, false, true), (8, false, true), (9, false, true), (10, false, true), (11, true, false)]
    (fun w' => w'.cell? ⟨g, k, none⟩ = some (.int .u8 (ck.toNat : Int)) ∧ w'.cell? ⟨w.heap.size + 1, 1, none⟩ = some (.int .i64 q1)) (by kernel_rfl) (by kernel_rfl) (by decide) (by kernel_rfl) ?_
  have hS : w5.drew.cell? ⟨g, k, none⟩ = some (.int .u8 (ck.toNat : Int)) ∧ w5.drew.cell? ⟨w.heap.size + 1, 1, none⟩ = some (.int .i64 q1) := ⟨n0, m1⟩
  repeat (first
    | (refine O_take _ _ rfl (by rfl) (fun _ _ _ h => h) (by assumption) (fun w hSw => by (simp only [List.getElem_toArray, List.getElem_cons_zero, List.getElem_cons_succ]; go_simp; first | done | with_reducible rfl)) ?_; simp only [Act.put, List.getElem_toArray, List.getElem_cons_zero, List.getElem_cons_succ, List.setIfInBounds_toArray, List.set_cons_zero, List.set_cons_succ])
    | (refine O_pass _ rfl (by rfl) (fun _ _ _ h => h) (by assumption) ?_; simp only [Act.put, List.getElem_toArray, List.getElem_cons_zero, List.getElem_cons_succ, List.setIfInBounds_toArray, List.set_cons_zero, List.set_cons_succ])
    | (refine O_idle _ rfl (by rfl) (by assumption) ?_; simp only [Act.put, List.getElem_toArray, List.getElem_cons_zero, List.getElem_cons_succ, List.setIfInBounds_toArray, List.set_cons_zero, List.set_cons_succ]))
  clear hS
  refine O_actF _ rfl (by rfl) (fun K' hK => ?_)
  simp only [List.getElem_toArray, List.getElem_cons_zero, List.getElem_cons_succ]
  go_simp
  refine hK _ _ ?_
  clear hK K' n1 hxb
  (try simp only [Act.put, List.getElem_toArray, List.getElem_cons_zero, List.getElem_cons_succ, List.setIfInBounds_toArray, List.set_cons_zero, List.set_cons_succ])
  refine O_nil ?_
  (try simp only [NoPanic])
  have hcvt : (convert 31 9 (.slice (some ⟨g, 0, none⟩) 128 cap)).run Tryd.prog (w5.setCell ⟨g, k, none⟩ (.int .u8 (c.toNat : Int))).drew = .ok (.string sc) (w5.setCell ⟨g, k, none⟩ (.int .u8 (c.toNat : Int))).drew := CS4.out w5.drew cap HAL.out ⟨_, n0⟩
  have hwg5 : w.heap.size ≤ g := hwg
  have HB6 : Hid (Bel w (w5.setCell ⟨g, k, none⟩ (.int .u8 (c.toNat : Int))).drew) := Lib.hid ((HB5.out.setCell (p := ⟨g, k, none⟩) hwg5 _).drew)
  have HN6 : Hid (Blk (w5.setCell ⟨g, k, none⟩ (.int .u8 (c.toNat : Int))).drew w.heap.size 24 #[.int .u64 (t1 : Int), .int .u64 (t2 : Int)]) := Lib.hid (HN5.out.far (p := ⟨g, k, none⟩) lN _).drew
  have HM6 : Hid (Blk (w5.setCell ⟨g, k, none⟩ (.int .u8 (c.toNat : Int))).drew (w.heap.size + 1) 41 #[.int .i64 q0, .int .i64 q1]) := Lib.hid (HM5.out.far (p := ⟨g, k, none⟩) lM _).drew
  have HX6 : Hid (Blk (w5.setCell ⟨g, k, none⟩ (.int .u8 (c.toNat : Int))).drew w3.heap.size 24 #[.int .u64 (t1 : Int), .int .u64 (t2 : Int)]) := Lib.hid (HX5.out.far (p := ⟨g, k, none⟩) lX _).drew
  clear n0 m0 m1 HB5 HN5 HM5 HX5 CS4 HAL
  generalize (w5.setCell ⟨g, k, none⟩ (.int .u8 (c.toNat : Int))).drew = w6 at *
  by_cases hz : q1 % 256 = 0
  focus
    have RU : Hid (∀ w, Calls Tryd.prog 12 #[.string sc] w fun e w' => e = .returned (.tuple #[.string sp, .agg #[.int .u64 (t1 : Int), .int .u64 (t2 : Int)], .bool true]) ∧ Below w.heap.size w w') := Lib.hid fun w => by
      have := RT.out w
      rwa [if_pos hz, RV1.out] at this
    have hz2 : (q1 % 256 == 0) = true := by simpa using hz
    clear RT
    go_wp2_with fail
    (with_reducible refine (RU.out _).mono ?_)
    rintro e w7 ⟨rfl, hb⟩
    have hN7 := (HN6.out.bel hb).alloc (.cells #[.int .u64 (t1 : Int), .int .u64 (t2 : Int)] 24)
    have hM7 := (HM6.out.bel hb).alloc (.cells #[.int .u64 (t1 : Int), .int .u64 (t2 : Int)] 24)
    have hX7 := (HX6.out.bel hb).alloc (.cells #[.int .u64 (t1 : Int), .int .u64 (t2 : Int)] 24)
    have HB7 := Lib.hid ((HB6.out.step hb).alloc (.cells #[.int .u64 (t1 : Int), .int .u64 (t2 : Int)] 24))
    obtain ⟨a0, a1⟩ := hN7.two
    obtain ⟨m0, m1⟩ := hM7.two
    obtain ⟨x0, x1⟩ := hX7.two
    clear hN7 hM7 hX7 hb
    go_wp2_with fail
    go_ret
    exact ⟨rfl, HB7.out⟩
  focus
    have RU : Hid (∀ w, Calls Tryd.prog 12 #[.string sc] w fun e w' => e = .returned (.tuple #[.string ⟨#[]⟩, .agg #[.int .u64 0, .int .u64 0], .bool false]) ∧ Below w.heap.size w w') := Lib.hid fun w => by
      have := RT.out w
      rwa [if_neg hz] at this
    have hz2 : (q1 % 256 == 0) = false := by simpa using hz
    clear RT
    go_wp2_with fail
    (with_reducible refine (RU.out _).mono ?_)
    rintro e w7 ⟨rfl, hb⟩
    have hN7 := (HN6.out.bel hb).alloc (.cells #[.int .u64 0, .int .u64 0] 24)
    have hM7 := (HM6.out.bel hb).alloc (.cells #[.int .u64 0, .int .u64 0] 24)
    have hX7 := (HX6.out.bel hb).alloc (.cells #[.int .u64 0, .int .u64 0] 24)
    have HB7 := Lib.hid ((HB6.out.step hb).alloc (.cells #[.int .u64 0, .int .u64 0] 24))
    obtain ⟨a0, a1⟩ := hN7.two
    obtain ⟨m0, m1⟩ := hM7.two
    obtain ⟨x0, x1⟩ := hX7.two
    clear hN7 hM7 hX7 hb
    go_wp2_with fail
    go_ret
    exact ⟨rfl, HB7.out⟩
namespace SectorBack
theorem params : ∀ t ∈ Tryd.f4.params.toList, Tryd.prog.readableRec t = true ∧ t < Tryd.prog.types.size := by
  have h : (Tryd.f4.params.toList.all fun t => Tryd.prog.readableRec t && decide (t < Tryd.prog.types.size)) = true := by kernel_rfl
  intro t ht
  have := List.all_eq_true.1 h t ht
  simpa using this
set_option maxRecDepth 100000 in
theorem lifted (os : Os) (started : os.Started) (H : Type) (enc : TypeId × Value → H) :
    ReturnsInHanded {} Tryd.checked os 4 .any (fun w args => (Rows.sectorBackSpec.pre enc Tryd.prog Tryd.f4 [] false w args ∧ laidMetH Tryd.prog laidS w) ∧ sizedMet enc Tryd.prog Tryd.f4 (OpenSpec.ofChange Rows.sectorBackSpec) false w args) (Rows.sectorBackSpec.post enc Tryd.prog Tryd.f4 false true false false) := by
  refine returnsInHanded_of_change_and (C := Tryd.checked) (X := fun w _ => laidMetH Tryd.prog laidS w) (fun _ _ _ hh h => h.of_heap hh) Tryd.own started (by kernel_rfl) Tryd.func4
    (ChangeSpec.witness_shaped (enc := enc) (C := Tryd.checked) (os := os) (X := fun w _ => laidMetH Tryd.prog laidS w) false (World.laidAll Tryd.prog os laidS) #[.string ⟨#[]⟩, .agg #[.int .u64 0, .int .u64 0], .agg #[.int .i64 0, .int .i64 0]] 8 (World.laidAll_os _ _ _)
      (World.shaped_of_ZipB (by kernel_rfl) (by kernel_rfl)) (by kernel_rfl) (by kernel_rfl) (by kernel_rfl) (laid_met os _)) ?_
  intro W base args ds gs before hval0 hW _ _ _ _
  have hval : ∀ (j : Nat) t v, Tryd.f4.params[j]? = some t → args[j]? = some v → Value.okWide Tryd.prog W .any base t v := hval0
  have hW' := hW
  obtain ⟨p, q, hA0, hV, rfl, hfz, hnd⟩ := hW
  have hA : DataW.TrodAll enc Tryd.prog W 0 (fun _ => true) true Tryd.f4.params.toList args.toList ds p := hA0
  rw [Tryd.params4] at hA hval
  obtain ⟨v0, v1, v2, d0, d1, d2, p0, p1, p2, rfl, rfl, rfl, h0, h1, h2⟩ := trodAll_three hA
  obtain ⟨rfl, rfl⟩ := trodVars_none hV
  obtain ⟨s0, rfl, _, _, hs0⟩ := open_string Tryd.underlying9 (hval 0 9 v0 rfl rfl) h0
  obtain ⟨a1, a2, rfl, ha1, ha2⟩ := open_tag (hval 1 24 v1 rfl rfl) h1
  obtain ⟨q0, q1, rfl, _, _, _, _⟩ := WideMaps.open_pair (P := Tryd.prog) (k := 41) (e := 3) ⟨Tryd.underlying41, by kernel_rfl, by kernel_rfl, by kernel_rfl⟩ Tryd.underlying3 (hval 2 41 v2 rfl rfl) h2
  have hsL : s0.data.toList.length ≤ 9223372036854775807 := by unfold maxLen at hs0; exact hs0
  obtain ⟨l0, rfl⟩ : ∃ l, s0 = strOf l := ⟨s0.data.toList, by unfold strOf; simp⟩
  refine (back_walk l0 (by simpa [strOf] using hsL) a1 a2 ha1 ha2 q0 q1 W).mono fun e W' ⟨he, hb⟩ => ?_
  subst he
  exact ⟨_, rfl, law_end Tryd.laidOut params rfl Tryd.underlying4 rfl hW' rfl rfl rfl hb⟩
theorem holds : Rows.SectorBackSaid :=
  OpenClaim.holds_of_wide 4 Tryd.f4 rfl rfl rfl rfl rfl rfl rfl ⟨rfl, rfl, rfl, rfl, rfl⟩ rfl rfl rfl rfl rfl (by kernel_rfl) Tryd.func4 (by kernel_rfl)
    (of_decide_eq_true (by kernel_rfl)) (by unfold Func.isWrapper; first | (rw [if_pos (by decide +kernel)]; kernel_rfl) | (rw [if_neg (by decide +kernel)]; exact ⟨rfl, rfl⟩))
    (fun os started H enc _ => lifted os started H enc)
theorem card_holds : Rows.SectorBackCardSaid :=
  Claim7.holds_tied_plain_at .later [] [.data, .pinned] true Rows.sectorBackCard.stood.harness false holds (fun _ h => by cases h) (by kernel_rfl) (fun _ h => by cases h) sectorBack_row_tie rfl ⟨rfl, rfl⟩ (by kernel_rfl) rfl
    (fun f fn hf hfn => by
      obtain rfl : f = 4 := Option.some.inj ((show Tryd.prog.funcNamed "vendue/venduelaw03.SectorBack" = some 4 by kernel_rfl).symm.trans hf) |>.symm
      obtain rfl : fn = Tryd.f4 := (Option.some.inj (Tryd.func4.symm.trans hfn)).symm
      exact ⟨by kernel_rfl, fun j t ht => by
        have hm : t ∈ Tryd.f4.params := Array.mem_of_getElem? ht
        have hall : (Tryd.f4.params.toList.all fun u => !Tryd.prog.wantsStandIn u) = true := by kernel_rfl
        exact (show Tryd.prog.wantsStandIn t = false by simpa using List.all_eq_true.1 hall t (by simpa using hm))⟩)
    (by kernel_rfl)
end SectorBack
end Go.Proofs.YtmcnoekpblkpdaaDoor
