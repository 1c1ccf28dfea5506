/- SectorTorn: whatever piece, tag and old sector come in: a sector whose first so many bytes are a new one's has not the new one's tag, unless it is just the new one (or the old one's tag is the same): the law returns true, and leaves its arguments as they were. No condition beside the row's own. -/
import Derived.Test.YtmcnoekpblkpdaaDoorSecEnds
namespace Go.Proofs.YtmcnoekpblkpdaaDoor
open Go.ChangeShapes Go.WideShapes Go.ChangeAt Go.RowKit Go.ChangeMaps

section
variable {P : Program} {w w' : World} {o : Oper} {a : Act} {Q : Exit → Act → World → Prop} {ops : Array Oper} {rest : List Oper}
/-- 'copy(dst, s)', s a string, dst a whole row: as many bytes as fit. -/
theorem run_copy_any (w : World) (dT sT ty elem : TypeId) (g dCap : Nat) (s : List UInt8) (L : List Value) (t : TypeId)
    (hu : P.underlying dT = some (.slice elem)) (hs : (P.info? elem).map (·.size) = some 1) (hg : Blk w g t L.toArray) :
    (Builtin.copy_ #[dT, sT] ty #[.slice (some ⟨g, 0, none⟩) L.length dCap, .string (strOf s)]).run P w =
      .ok (goInt (Nat.min s.length L.length)) (w.setRow g (byteCells (s.take L.length) ++ L.drop s.length).toArray) := by
  have hlen : (byteCells (s.take L.length)).length = Nat.min s.length L.length := by rw [byteCells_length, List.length_take]; exact Nat.min_comm _ _
  have hst := run_storeCells_at P g 0 t (byteCells (s.take L.length)) 0 L.toArray w hg (by rw [hlen]; simp; exact Nat.min_le_right _ _) (byteCells_one _)
  have htk : List.take (Nat.min s.length L.length) (List.map (fun b : UInt8 => Value.int IntKind.u8 (b.toNat : Int)) s) = byteCells (s.take L.length) := by
    unfold byteCells
    rw [List.map_take]
    rcases Nat.le_total s.length L.length with h | h
    · have hm : Nat.min s.length L.length = s.length := Nat.min_eq_left h
      rw [hm, List.take_of_length_le (by simp), List.take_of_length_le (by simpa using h)]
    · have hm : Nat.min s.length L.length = L.length := Nat.min_eq_right h
      rw [hm]
  have hdr : L.drop (Nat.min s.length L.length) = L.drop s.length := by
    rcases Nat.le_total s.length L.length with h | h
    · have hm : Nat.min s.length L.length = s.length := Nat.min_eq_left h
      rw [hm]
    · have hm : Nat.min s.length L.length = L.length := Nat.min_eq_right h
      rw [hm, List.drop_eq_nil_of_le (Nat.le_refl _), List.drop_eq_nil_of_le h]
  rw [hlen] at hst
  simp only [Nat.add_zero, Nat.zero_add, List.take_zero, List.nil_append, hdr] at hst
  have hsz : (strOf s).size = s.length := rfl
  have hda : (strOf s).data.toList = s := by simp [strOf]
  cases hq : P.info? elem with
  | none => simp [hq] at hs
  | some i =>
    simp [Builtin.copy_, run_underlying hu, Builtin.lenOf, Builtin.firstCells, sizeOf, typeInfo, hq, hsz, hda]
    rw [htk, hst]
    simp [Result.andThen]
theorem L_copy_any (hgd : o.guard = none) (d s : Operand) (dT sT : TypeId) (ho : o.op = .call { callee := .builtin .copy, args := #[d, s], argTypes := #[dT, sT] }) {elem : TypeId} (hu : P.underlying dT = some (.slice elem)) (hsz : (P.info? elem).map (·.size) = some 1)
    (g dCap : Nat) (t : TypeId) (L : List Value) (hd : a.eval d = .slice (some ⟨g, 0, none⟩) L.length dCap) (str : List UInt8) (hs : a.eval s = .string (strOf str)) (hb : Blk w g t L.toArray)
    (h : wpList P ops Q rest (a.put o.dst (goInt (Nat.min str.length L.length))) (w.setRow g (byteCells (str.take L.length) ++ L.drop str.length).toArray)) : wpList P ops Q (o :: rest) a w :=
  L_of hgd fun _ hK => wp_val (x_call ho fun _ => by
    simp only [builtin, List.map_toArray, List.map_cons, List.map_nil, hd, hs, Sem.run_bind, run_copy_any w dT sT o.type elem g dCap str L t hu hsz hb, Result.andThen_ok, Sem.run_pure]) (hK _ _ h)
end

def z128 : List Value := List.replicate 128 (Value.int .u8 0)
theorem sizeByte : (Tryd.prog.info? 5).map (·.size) = some 1 := by kernel_rfl
theorem z128_length : z128.length = 128 := by simp [z128]
/-- The old sector, cut or filled up. -/
def oldB (old : List UInt8) : List UInt8 := old.take 128 ++ List.replicate (128 - old.length) 0
theorem oldB_length (old : List UInt8) : (oldB old).length = 128 := by simp [oldB]; omega
theorem oldB_cells (old : List UInt8) : byteCells (old.take z128.length) ++ z128.drop old.length = byteCells (oldB old) := by
  rw [z128_length]
  unfold z128 oldB byteCells
  rw [List.drop_replicate, List.map_append, List.map_replicate]
  rfl
theorem tmod_k (n : Int) : (n.tmod 129 + 129) % 129 = (((n % 129).toNat : Nat) : Int) ∧ (n % 129).toNat ≤ 128 := by
  have h1 : (n.tmod 129 + 129) % 129 = n % 129 := by
    rw [Int.tmod_eq_emod, Int.add_emod_right]
    split
    · simp
    · rw [Int.sub_emod, Int.emod_emod]
      have : ((129 : Int).natAbs : Int) = 129 := rfl
      rw [this, Int.emod_self, Int.sub_zero, Int.emod_emod]
  omega

/-- What a row of bytes gives to string(o[k:]). -/
theorem conv_drop (w : World) (g k x : Nat) (L : List UInt8) (hL : L.length = 128) (hA : k < 128 → x = k) (hk : k ≤ 128) (hb : Blk w g 5 (byteCells L).toArray) :
    (convert 31 9 (.slice (some ⟨g, x, none⟩) (128 - k) (128 - k))).run Tryd.prog w = .ok (.string (strOf (L.drop k))) w := by
  have hl : (L.drop k).length = 128 - k := by simp [hL]
  have := run_bytes_str (P := Tryd.prog) (cap := 128 - k) (s := L.drop k) (off := x) hb (by
    rw [hl]; unfold byteCells
    by_cases h : k < 128
    · rw [hA h, ← List.map_drop, List.take_of_length_le (by simp [hL])]
    · rw [show 128 - k = 0 by omega, List.take_zero, List.drop_eq_nil_of_le (by omega)]; rfl) Tryd.underlying31 Tryd.underlying5 Tryd.underlying9
  rwa [hl] at this
theorem torn_is (p : List UInt8) (t : Nat × Nat) (h : p.length ≤ 107) (h1 : t.1 < 18446744073709551616) (h2 : t.2 < 18446744073709551616) (o : List UInt8) (ho : o.length = 128) (hne : endT o ≠ t) (k : Nat) (hk : k ≤ 128) :
    isB ((secMake p t).take k ++ o.drop k) t = decide ((secMake p t).take k ++ o.drop k = secMake p t) := by
  by_cases he : (secMake p t).take k ++ o.drop k = secMake p t
  · rw [he, isB_make p t t h h1 h2]; simp
  · rw [decide_eq_false he]
    cases hi : isB ((secMake p t).take k ++ o.drop k) t with
    | false => rfl
    | true =>
      exfalso
      apply he
      refine torn_known p t h h1 h2 o ho hne k hk ?_
      unfold isB at hi
      cases hr : secRead ((secMake p t).take k ++ o.drop k) with
      | none => rw [hr] at hi; cases hi
      | some x =>
        obtain ⟨p', u1, u2⟩ := x
        rw [hr] at hi
        simp at hi
        exact ⟨p', by rw [hi.1, hi.2]⟩
theorem str_ne {s t : List UInt8} (h : s ≠ t) : ¬ (strOf s).toList = (strOf t).toList ∧ ((strOf s).toList == (strOf t).toList) = false := by
  have hh : ¬ (strOf s).toList = (strOf t).toList := by
    rw [ByteArray.toList_eq, ByteArray.toList_eq]
    simpa [strOf] using h
  exact ⟨hh, by rw [beq_eq_false_iff_ne]; exact hh⟩

set_option maxHeartbeats 1000000 in
set_option maxRecDepth 100000 in
theorem torn_walk (p0 : List UInt8) (hp0 : p0.length ≤ 9223372036854775807) (t1 t2 : Nat) (ht1 : t1 < 18446744073709551616) (ht2 : t2 < 18446744073709551616) (old : List UInt8) (hold : old.length ≤ 9223372036854775807) (nw : Int) (w : World) :
    Calls Tryd.prog 5 #[.string (strOf p0), .agg #[.int .u64 (t1 : Int), .int .u64 (t2 : Int)], .agg #[.string (strOf old), .int .i64 nw]] w fun e w' => e = .returned (.bool true) ∧ Below w.heap.size w w' := by
  have HA := Lib.hid fun w => awake_any w
  have SH : Hid (∀ w, Calls Tryd.prog 10 #[.string (strOf p0), .int .i64 107] w fun e w' => e = .returned (.string (strOf (p0.take 107))) ∧ w = w') := Lib.hid fun w => short_any p0 107 w hp0
  have hp : (p0.take 107).length ≤ 107 := List.length_take_le _ _
  generalize p0.take 107 = p at *
  have M1 : Hid (∀ w, Calls Tryd.prog 18 #[.string (strOf p), .agg #[.int .u64 (t1 : Int), .int .u64 (t2 : Int)]] w fun e w' => e = .returned (.tuple #[.string (strOf (secMake p (t1, t2))), .int .i64 0]) ∧ Below w.heap.size w w') := Lib.hid fun w => make_any p hp (t1, t2) w
  have HMK : Hid (∀ w, (Instr.makeSlice 31 (.int .i64 128) (.int .i64 128)).run Tryd.prog w = .ok (.slice (some ⟨w.heap.size, 0, none⟩) 128 128) (w.alloc (.cells z128.toArray 5))) := Lib.hid fun w => make_bytes 128 (by omega) w
  obtain ⟨hk1, hk2⟩ := tmod_k nw
  have HK := Lib.hid hk1
  have b1 := Int.tmod_lt_of_pos nw (show (0 : Int) < 129 by decide)
  have b2 := Int.lt_tmod_of_pos nw (show (0 : Int) < 129 by decide)
  clear hk1
  generalize (nw % 129).toNat = k at *
  have hL := secMake_length p (t1, t2) hp
  have hO := oldB_length old
  have OC := Lib.hid (oldB_cells old)
  have TI : Hid (endT (oldB old) ≠ (t1, t2) → isB ((secMake p (t1, t2)).take k ++ (oldB old).drop k) (t1, t2) = decide ((secMake p (t1, t2)).take k ++ (oldB old).drop k = secMake p (t1, t2))) := Lib.hid fun hne => torn_is p (t1, t2) hp ht1 ht2 _ hO hne k hk2
  have E1 : Hid (∀ w, Calls Tryd.prog 14 #[.string (strOf (oldB old))] w fun e w' => e = .returned (.tuple #[.agg #[.int .u64 ((endT (oldB old)).1 : Nat), .int .u64 ((endT (oldB old)).2 : Nat)], .bool true]) ∧ Below w.heap.size w w') := Lib.hid fun w => end_ok' _ hO w
  have CD : Hid (∀ w g x, (k < 128 → x = k) → Blk w g 5 (byteCells (oldB old)).toArray → (convert 31 9 (.slice (some ⟨g, x, none⟩) (128 - k) (128 - k))).run Tryd.prog w = .ok (.string (strOf ((oldB old).drop k))) w) := Lib.hid fun w g x h hb => conv_drop w g k x _ hO h hk2 hb
  have CW : Hid (∀ w g, Blk w g 5 (byteCells (oldB old)).toArray → (convert 31 9 (.slice (some ⟨g, 0, none⟩) 128 128)).run Tryd.prog w = .ok (.string (strOf (oldB old))) w) := Lib.hid fun w g hb => conv_drop w g 0 0 _ hO (fun _ => rfl) (by omega) hb
  have I1 : Hid (∀ w, Calls Tryd.prog 16 #[.string (strOf ((secMake p (t1, t2)).take k ++ (oldB old).drop k)), .agg #[.int .u64 (t1 : Int), .int .u64 (t2 : Int)]] w fun e w' => e = .returned (.bool (isB ((secMake p (t1, t2)).take k ++ (oldB old).drop k) (t1, t2))) ∧ Below w.heap.size w w') := Lib.hid fun w => is_any _ (t1, t2) w
  clear hp hp0 ht1 ht2 hO hold
  have AP : Hid ((strOf (secMake p (t1, t2))).extract 0 k ++ strOf ((oldB old).drop k) = strOf ((secMake p (t1, t2)).take k ++ (oldB old).drop k)) := Lib.hid (by rw [extract_strOf, strOf_append]; simp)
  have za : (strOf (secMake p (t1, t2))).size = 128 := hL
  have zd : (strOf ((oldB old).drop k)).size ≤ 128 := by rw [strOf_size, List.length_drop, oldB_length]; omega
  have ze : ((strOf (secMake p (t1, t2))).extract 0 k).size ≤ 128 := by rw [extract_strOf, strOf_size]; simp; omega
  generalize endT (oldB old) = u at *
  obtain ⟨u1, u2⟩ := u
  have XN : Hid (∀ X, X = (secMake p (t1, t2)).take k ++ (oldB old).drop k → X ≠ secMake p (t1, t2) → ¬ (strOf X).toList = (strOf (secMake p (t1, t2))).toList ∧ ((strOf X).toList == (strOf (secMake p (t1, t2))).toList) = false) := Lib.hid fun X _ h => str_ne h
  generalize hXX : (secMake p (t1, t2)).take k ++ (oldB old).drop k = XX at *
  have HXX := Lib.hid hXX
  clear hXX hL
  generalize hSA : strOf (secMake p (t1, t2)) = sa at *
  have HSA := Lib.hid hSA
  clear hSA
  generalize strOf ((oldB old).drop k) = od at *
  go_enter Tryd.func5, Tryd.ntmps5
  go_wp2_with fail
  (with_reducible refine (HA.out _).mono ?_)
  rintro e w1 ⟨rfl, hb⟩
  have hN := ((Blk.new w 24 #[.int .u64 (t1 : Int), .int .u64 (t2 : Int)]).alloc (.cells #[.string (strOf old), .int .i64 nw] 44)).bel hb
  have hM := (Blk.new (w.alloc (.cells #[.int .u64 (t1 : Int), .int .u64 (t2 : Int)] 24)) 44 #[.string (strOf old), .int .i64 nw]).bel hb
  rw [World.size_alloc] at hM
  have HB := Lib.hid ((((Bel.refl w).alloc (.cells #[.int .u64 (t1 : Int), .int .u64 (t2 : Int)] 24)).alloc (.cells #[.string (strOf old), .int .i64 nw] 44)).step hb)
  have HN := Lib.hid hN
  have HM := Lib.hid hM
  clear hN hM hb
  go_wp2_with fail
  have HS2 := Lib.hid fun w' (h : Bel w1 w') => (show Bel w1 w' ∧ w'.cell? ⟨w.heap.size, 0, none⟩ = some (.int .u64 (t1 : Int)) ∧ w'.cell? ⟨w.heap.size, 1, none⟩ = some (.int .u64 (t2 : Int)) from ⟨h, (HN.out.bel h).two⟩)
  refine wp_region_ord [(0, false, true), (2, false, true), (1, true, true), (3, true, true), (4, false, true), (5, false, true), (6, false, true), (7, false, true), (8, false, true)]
    (fun w' => Bel w1 w' ∧ w'.cell? ⟨w.heap.size, 0, none⟩ = some (.int .u64 (t1 : Int)) ∧ w'.cell? ⟨w.heap.size, 1, none⟩ = some (.int .u64 (t2 : Int))) (by kernel_rfl) (by kernel_rfl) (by decide) (by kernel_rfl) ?_
  have hS := HS2.out _ (Bel.start w1)
  repeat (first
        | (refine O_take _ _ rfl (by rfl) (fun _ _ _ h => h) (by assumption) (fun w hSw => by (simp only [List.getElem_toArray, List.getElem_cons_zero, List.getElem_cons_succ]; go_simp; first | done | with_reducible rfl)) ?_; simp only [Act.put, List.getElem_toArray, List.getElem_cons_zero, List.getElem_cons_succ, List.setIfInBounds_toArray, List.set_cons_zero, List.set_cons_succ])
        | (refine O_pass _ rfl (by rfl) (fun _ _ _ h => h) (by assumption) ?_; simp only [Act.put, List.getElem_toArray, List.getElem_cons_zero, List.getElem_cons_succ, List.setIfInBounds_toArray, List.set_cons_zero, List.set_cons_succ])
        | (refine O_idle _ rfl (by rfl) (by assumption) ?_; simp only [Act.put, List.getElem_toArray, List.getElem_cons_zero, List.getElem_cons_succ, List.setIfInBounds_toArray, List.set_cons_zero, List.set_cons_succ]))
  refine O_act _ rfl (by rfl) (fun K' hK => ?_)
  simp only [List.getElem_toArray, List.getElem_cons_zero, List.getElem_cons_succ]
  go_simp
  (with_reducible refine (SH.out _).mono ?_)
  rintro e w2 ⟨rfl, rfl⟩
  refine hK _ _ hS ?_
  clear hK K'
  repeat (first
        | (refine O_take _ _ rfl (by rfl) (fun _ _ _ h => h) (by assumption) (fun w hSw => by (simp only [List.getElem_toArray, List.getElem_cons_zero, List.getElem_cons_succ]; go_simp; first | done | with_reducible rfl)) ?_; simp only [Act.put, List.getElem_toArray, List.getElem_cons_zero, List.getElem_cons_succ, List.setIfInBounds_toArray, List.set_cons_zero, List.set_cons_succ])
        | (refine O_pass _ rfl (by rfl) (fun _ _ _ h => h) (by assumption) ?_; simp only [Act.put, List.getElem_toArray, List.getElem_cons_zero, List.getElem_cons_succ, List.setIfInBounds_toArray, List.set_cons_zero, List.set_cons_succ])
        | (refine O_idle _ rfl (by rfl) (by assumption) ?_; simp only [Act.put, List.getElem_toArray, List.getElem_cons_zero, List.getElem_cons_succ, List.setIfInBounds_toArray, List.set_cons_zero, List.set_cons_succ]))
  refine O_act _ rfl (by rfl) (fun K' hK => ?_)
  simp only [List.getElem_toArray, List.getElem_cons_zero, List.getElem_cons_succ]
  go_simp
  (with_reducible refine (M1.out _).mono ?_)
  rintro e w2 ⟨rfl, hb⟩
  have hS := HS2.out _ (hS.1.step hb)
  refine hK _ _ hS ?_
  clear hK K' hb
  repeat (first
        | (refine O_take _ _ rfl (by rfl) (fun _ _ _ h => h) (by assumption) (fun w hSw => by (simp only [List.getElem_toArray, List.getElem_cons_zero, List.getElem_cons_succ]; go_simp; first | done | with_reducible rfl)) ?_; simp only [Act.put, List.getElem_toArray, List.getElem_cons_zero, List.getElem_cons_succ, List.setIfInBounds_toArray, List.set_cons_zero, List.set_cons_succ])
        | (refine O_pass _ rfl (by rfl) (fun _ _ _ h => h) (by assumption) ?_; simp only [Act.put, List.getElem_toArray, List.getElem_cons_zero, List.getElem_cons_succ, List.setIfInBounds_toArray, List.set_cons_zero, List.set_cons_succ])
        | (refine O_idle _ rfl (by rfl) (by assumption) ?_; simp only [Act.put, List.getElem_toArray, List.getElem_cons_zero, List.getElem_cons_succ, List.setIfInBounds_toArray, List.set_cons_zero, List.set_cons_succ]))
  refine O_nil ?_
  (try simp only [NoPanic])
  have HN2 := Lib.hid (HN.out.bel hS.1)
  have HM2 := Lib.hid (HM.out.bel hS.1)
  have HB2 := Lib.hid (HB.out.step hS.1)
  clear hS HS2 HN HM HB
  have hmk := HMK.out
  obtain ⟨d0, d1⟩ := (HM2.out.alloc (.cells z128.toArray 5)).two
  have hZ := Blk.new w2 5 z128.toArray
  have HZ := Lib.hid hZ
  clear hZ
  have zl : z128.length = 128 := z128_length
  go_upto_region 6 with fail
  go_upto_region 7 with (refine L_copy_any rfl (.tmp 31) (.tmp 33) 31 9 rfl Tryd.underlying31 sizeByte w2.heap.size 128 5 z128 (by rw [zl]; rfl) old rfl HZ.out ?_)
  have hZ2 := HZ.out.setRow (cs' := (byteCells (old.take z128.length) ++ z128.drop old.length).toArray)
  rw [OC.out] at hZ2 ⊢
  have hne1 : w.heap.size ≠ w2.heap.size := by have := HN2.out.lt; omega
  have hne2 : w.heap.size + 1 ≠ w2.heap.size := by have := HM2.out.lt; omega
  have HN3 := Lib.hid ((HN2.out.alloc (.cells z128.toArray 5)).setRow_far (cs' := (byteCells (oldB old)).toArray) hne1)
  have HM3 := Lib.hid ((HM2.out.alloc (.cells z128.toArray 5)).setRow_far (cs' := (byteCells (oldB old)).toArray) hne2)
  have HB3 : Hid (Bel w ((w2.alloc (.cells z128.toArray 5)).setRow w2.heap.size (byteCells (oldB old)).toArray)) := Lib.hid (Frm.below ((Frm.of_below (HB2.out.alloc (.cells z128.toArray 5)) (fun _ => False)).setRow (g := w2.heap.size) (.inr HB2.out.size) _) (fun _ _ h => h.elim) (Nat.le_refl _))
  have HZ2 := Lib.hid hZ2
  clear hZ2 HZ HN2 HM2 HB2 d0 d1 hmk zl
  generalize hg : w2.heap.size = g at *
  generalize (w2.alloc (.cells z128.toArray 5)).setRow g (byteCells (oldB old)).toArray = w3 at *
  obtain ⟨d0, d1⟩ := HM3.out.two
  obtain ⟨c0, c1⟩ := HN3.out.two
  go_upto_region 8 with fail
  rw [HK.out]
  clear b1 b2
  have HBX : Hid (∀ w', Bel w3 w' → Bel w w') := Lib.hid fun w' h => HB3.out.step h
  have HCX : Hid (∀ w', Bel w3 w' → (convert 31 9 (.slice (some ⟨g, (if k < 128 then k else 0), none⟩) (128 - k) (128 - k))).run Tryd.prog w' = .ok (.string od) w') := Lib.hid fun w' h => CD.out w' g _ (fun hk => by rw [if_pos hk]) (HZ2.out.bel h)
  have hkc : k < 128 ∨ k = 128 := by omega
  have hkm : ∀ (X : Code), True := fun _ => trivial
  clear hkm
  generalize hxa : sa.extract 0 k = xh at *
  have q1 : (9223372036854775807 < xh.size + od.size) = False := eq_false (by omega)
  rcases hkc with hk | rfl
  focus
    rw [if_pos hk] at HCX
    have hk3 : (k : Int) ≤ 128 := by omega
    have hk0 : (0 : Int) ≤ (k : Int) := by omega
    have hk4 : ¬ (128 = k) := by omega
    refine wp_region_ord [(0, false, true), (1, false, true), (2, false, true), (3, false, true), (4, false, true), (5, false, true), (6, false, true), (7, false, true), (8, false, true)]
      (fun w' => Bel w3 w' ∧ (convert 31 9 (.slice (some ⟨g, k, none⟩) (128 - k) (128 - k))).run Tryd.prog w' = .ok (.string od) w') (by kernel_rfl) (by kernel_rfl) (by decide) (by kernel_rfl) ?_
    have hS := And.intro (Bel.start w3) (HCX.out _ (Bel.start w3))
    repeat (first
        | (refine O_take _ _ rfl (by rfl) (fun _ _ _ h => h) (by assumption) (fun w hSw => by (simp only [List.getElem_toArray, List.getElem_cons_zero, List.getElem_cons_succ]; go_simp; first | done | with_reducible rfl)) ?_; simp only [Act.put, List.getElem_toArray, List.getElem_cons_zero, List.getElem_cons_succ, List.setIfInBounds_toArray, List.set_cons_zero, List.set_cons_succ])
        | (refine O_pass _ rfl (by rfl) (fun _ _ _ h => h) (by assumption) ?_; simp only [Act.put, List.getElem_toArray, List.getElem_cons_zero, List.getElem_cons_succ, List.setIfInBounds_toArray, List.set_cons_zero, List.set_cons_succ])
        | (refine O_idle _ rfl (by rfl) (by assumption) ?_; simp only [Act.put, List.getElem_toArray, List.getElem_cons_zero, List.getElem_cons_succ, List.setIfInBounds_toArray, List.set_cons_zero, List.set_cons_succ]))
    refine O_nil ?_
    (try simp only [NoPanic])
    rw [AP.out]
    have HB4 := Lib.hid hS.1
    clear hS q1 hxa
    generalize w3.drew = w4 at *
    have hcw := CW.out w4 g (HZ2.out.bel HB4.out)
    go_wp2_with fail
    (with_reducible refine (E1.out _).mono ?_)
    rintro e w5 ⟨rfl, hb⟩
    have HB5 := Lib.hid (HBX.out _ (HB4.out.step hb))
    have hN5 := (HN3.out.bel (HB4.out.step hb)).alloc (.cells #[.int .u64 (u1 : Int), .int .u64 (u2 : Int)] 24)
    have hX5 := Blk.new w5 24 #[.int .u64 (u1 : Int), .int .u64 (u2 : Int)]
    have HB6 := Lib.hid (HB5.out.alloc (.cells #[.int .u64 (u1 : Int), .int .u64 (u2 : Int)] 24))
    obtain ⟨f0, f1⟩ := hN5.two
    obtain ⟨e0, e1⟩ := hX5.two
    clear hb hN5 hX5 HB4 hcw c0 c1 d0 d1
    have hcase : (u1 = t1 ∧ u2 = t2) ∨ (u1 ≠ t1 ∨ u2 ≠ t2) := by omega
    rcases hcase with ⟨rfl, rfl⟩ | h
    focus
      go_wp2_with fail
      go_ret
      exact ⟨rfl, HB6.out⟩
    focus
      have hTI := TI.out (by intro hh; simp only [Prod.mk.injEq] at hh; omega)
      have hXc : (XX = secMake p (t1, t2)) ∨ (XX ≠ secMake p (t1, t2)) := Classical.em _
      have hk2 : (isB XX (t1, t2) = true ∧ strOf XX = sa) ∨ (isB XX (t1, t2) = false ∧ ¬ (strOf XX).toList = sa.toList ∧ ((strOf XX).toList == sa.toList) = false) := by
        rcases hXc with hX | hX
        · left; exact ⟨by rw [hTI]; simpa using hX, by rw [hX]; exact HSA.out⟩
        · right
          refine ⟨by rw [hTI]; simpa using hX, ?_⟩
          exact XN.out XX rfl hX
      clear hTI hXc
      have hc2 : u1 ≠ t1 ∨ (u1 = t1 ∧ u2 ≠ t2) := by omega
      clear h
      generalize isB XX (t1, t2) = bb at *
      generalize strOf XX = xx at *
      rcases hc2 with h | ⟨rfl, h⟩
      focus
        have hni : ¬ ((u1 : Int) = (t1 : Int)) := by omega
        rcases hk2 with ⟨rfl, rfl⟩ | ⟨rfl, hn1, hn2⟩
        focus
          go_wp2_with fail
          (with_reducible refine (I1.out _).mono ?_)
          rintro e w7 ⟨rfl, hb⟩
          go_wp2_with fail
          go_ret
          exact ⟨rfl, HB6.out.step hb⟩
        focus
          go_wp2_with fail
          (with_reducible refine (I1.out _).mono ?_)
          rintro e w7 ⟨rfl, hb⟩
          go_wp2_with fail
          go_ret
          exact ⟨rfl, HB6.out.step hb⟩
      focus
        have hni : ¬ ((u2 : Int) = (t2 : Int)) := by omega
        rcases hk2 with ⟨rfl, rfl⟩ | ⟨rfl, hn1, hn2⟩
        focus
          go_wp2_with fail
          (with_reducible refine (I1.out _).mono ?_)
          rintro e w7 ⟨rfl, hb⟩
          go_wp2_with fail
          go_ret
          exact ⟨rfl, HB6.out.step hb⟩
        focus
          go_wp2_with fail
          (with_reducible refine (I1.out _).mono ?_)
          rintro e w7 ⟨rfl, hb⟩
          go_wp2_with fail
          go_ret
          exact ⟨rfl, HB6.out.step hb⟩
  focus
    rw [if_neg (by omega)] at HCX
    refine wp_region_ord [(0, false, true), (1, false, true), (2, false, true), (3, false, true), (4, false, true), (5, false, true), (6, false, true), (7, false, true), (8, false, true)]
      (fun w' => Bel w3 w' ∧ (convert 31 9 (.slice (some ⟨g, 0, none⟩) 0 0)).run Tryd.prog w' = .ok (.string od) w') (by kernel_rfl) (by kernel_rfl) (by decide) (by kernel_rfl) ?_
    have hS := And.intro (Bel.start w3) (HCX.out _ (Bel.start w3))
    repeat (first
        | (refine O_take _ _ rfl (by rfl) (fun _ _ _ h => h) (by assumption) (fun w hSw => by (simp only [List.getElem_toArray, List.getElem_cons_zero, List.getElem_cons_succ]; go_simp; first | done | with_reducible rfl)) ?_; simp only [Act.put, List.getElem_toArray, List.getElem_cons_zero, List.getElem_cons_succ, List.setIfInBounds_toArray, List.set_cons_zero, List.set_cons_succ])
        | (refine O_pass _ rfl (by rfl) (fun _ _ _ h => h) (by assumption) ?_; simp only [Act.put, List.getElem_toArray, List.getElem_cons_zero, List.getElem_cons_succ, List.setIfInBounds_toArray, List.set_cons_zero, List.set_cons_succ])
        | (refine O_idle _ rfl (by rfl) (by assumption) ?_; simp only [Act.put, List.getElem_toArray, List.getElem_cons_zero, List.getElem_cons_succ, List.setIfInBounds_toArray, List.set_cons_zero, List.set_cons_succ]))
    refine O_nil ?_
    (try simp only [NoPanic])
    rw [AP.out]
    have HB4 := Lib.hid hS.1
    clear hS q1 hxa
    generalize w3.drew = w4 at *
    have hcw := CW.out w4 g (HZ2.out.bel HB4.out)
    go_wp2_with fail
    (with_reducible refine (E1.out _).mono ?_)
    rintro e w5 ⟨rfl, hb⟩
    have HB5 := Lib.hid (HBX.out _ (HB4.out.step hb))
    have hN5 := (HN3.out.bel (HB4.out.step hb)).alloc (.cells #[.int .u64 (u1 : Int), .int .u64 (u2 : Int)] 24)
    have hX5 := Blk.new w5 24 #[.int .u64 (u1 : Int), .int .u64 (u2 : Int)]
    have HB6 := Lib.hid (HB5.out.alloc (.cells #[.int .u64 (u1 : Int), .int .u64 (u2 : Int)] 24))
    obtain ⟨f0, f1⟩ := hN5.two
    obtain ⟨e0, e1⟩ := hX5.two
    clear hb hN5 hX5 HB4 hcw c0 c1 d0 d1
    have hcase : (u1 = t1 ∧ u2 = t2) ∨ (u1 ≠ t1 ∨ u2 ≠ t2) := by omega
    rcases hcase with ⟨rfl, rfl⟩ | h
    focus
      go_wp2_with fail
      go_ret
      exact ⟨rfl, HB6.out⟩
    focus
      have hTI := TI.out (by intro hh; simp only [Prod.mk.injEq] at hh; omega)
      have hXc : (XX = secMake p (t1, t2)) ∨ (XX ≠ secMake p (t1, t2)) := Classical.em _
      have hk2 : (isB XX (t1, t2) = true ∧ strOf XX = sa) ∨ (isB XX (t1, t2) = false ∧ ¬ (strOf XX).toList = sa.toList ∧ ((strOf XX).toList == sa.toList) = false) := by
        rcases hXc with hX | hX
        · left; exact ⟨by rw [hTI]; simpa using hX, by rw [hX]; exact HSA.out⟩
        · right
          refine ⟨by rw [hTI]; simpa using hX, ?_⟩
          exact XN.out XX rfl hX
      clear hTI hXc
      have hc2 : u1 ≠ t1 ∨ (u1 = t1 ∧ u2 ≠ t2) := by omega
      clear h
      generalize isB XX (t1, t2) = bb at *
      generalize strOf XX = xx at *
      rcases hc2 with h | ⟨rfl, h⟩
      focus
        have hni : ¬ ((u1 : Int) = (t1 : Int)) := by omega
        rcases hk2 with ⟨rfl, rfl⟩ | ⟨rfl, hn1, hn2⟩
        focus
          go_wp2_with fail
          (with_reducible refine (I1.out _).mono ?_)
          rintro e w7 ⟨rfl, hb⟩
          go_wp2_with fail
          go_ret
          exact ⟨rfl, HB6.out.step hb⟩
        focus
          go_wp2_with fail
          (with_reducible refine (I1.out _).mono ?_)
          rintro e w7 ⟨rfl, hb⟩
          go_wp2_with fail
          go_ret
          exact ⟨rfl, HB6.out.step hb⟩
      focus
        have hni : ¬ ((u2 : Int) = (t2 : Int)) := by omega
        rcases hk2 with ⟨rfl, rfl⟩ | ⟨rfl, hn1, hn2⟩
        focus
          go_wp2_with fail
          (with_reducible refine (I1.out _).mono ?_)
          rintro e w7 ⟨rfl, hb⟩
          go_wp2_with fail
          go_ret
          exact ⟨rfl, HB6.out.step hb⟩
        focus
          go_wp2_with fail
          (with_reducible refine (I1.out _).mono ?_)
          rintro e w7 ⟨rfl, hb⟩
          go_wp2_with fail
          go_ret
          exact ⟨rfl, HB6.out.step hb⟩
namespace SectorTorn
theorem params : ∀ t ∈ Tryd.f5.params.toList, Tryd.prog.readableRec t = true ∧ t < Tryd.prog.types.size := by
  have h : (Tryd.f5.params.toList.all fun t => Tryd.prog.readableRec t && decide (t < Tryd.prog.types.size)) = true := by kernel_rfl
  intro t ht
  have := List.all_eq_true.1 h t ht
  simpa using this
set_option maxRecDepth 100000 in
theorem lifted (os : Os) (started : os.Started) (H : Type) (enc : TypeId × Value → H) :
    ReturnsInHanded {} Tryd.checked os 5 .any (fun w args => (Rows.sectorTornSpec.pre enc Tryd.prog Tryd.f5 [] false w args ∧ laidMetH Tryd.prog laidS w) ∧ sizedMet enc Tryd.prog Tryd.f5 (OpenSpec.ofChange Rows.sectorTornSpec) false w args) (Rows.sectorTornSpec.post enc Tryd.prog Tryd.f5 false true false false) := by
  refine returnsInHanded_of_change_and (C := Tryd.checked) (X := fun w _ => laidMetH Tryd.prog laidS w) (fun _ _ _ hh h => h.of_heap hh) Tryd.own started (by kernel_rfl) Tryd.func5
    (ChangeSpec.witness_shaped (enc := enc) (C := Tryd.checked) (os := os) (X := fun w _ => laidMetH Tryd.prog laidS w) false (World.laidAll Tryd.prog os laidS) #[.string ⟨#[]⟩, .agg #[.int .u64 0, .int .u64 0], .agg #[.string ⟨#[]⟩, .int .i64 0]] 8 (World.laidAll_os _ _ _)
      (World.shaped_of_ZipB (by kernel_rfl) (by kernel_rfl)) (by kernel_rfl) (by kernel_rfl) (by kernel_rfl) (laid_met os _)) ?_
  intro W base args ds gs before hval0 hW _ _ _ _
  have hval : ∀ (j : Nat) t v, Tryd.f5.params[j]? = some t → args[j]? = some v → Value.okWide Tryd.prog W .any base t v := hval0
  have hW' := hW
  obtain ⟨p, q, hA0, hV, rfl, hfz, hnd⟩ := hW
  have hA : DataW.TrodAll enc Tryd.prog W 0 (fun _ => true) true Tryd.f5.params.toList args.toList ds p := hA0
  rw [Tryd.params5] at hA hval
  obtain ⟨v0, v1, v2, d0, d1, d2, p0, p1, p2, rfl, rfl, rfl, h0, h1, h2⟩ := trodAll_three hA
  obtain ⟨rfl, rfl⟩ := trodVars_none hV
  obtain ⟨s0, rfl, _, _, hs0⟩ := open_string Tryd.underlying9 (hval 0 9 v0 rfl rfl) h0
  obtain ⟨a1, a2, rfl, ha1, ha2⟩ := open_tag (hval 1 24 v1 rfl rfl) h1
  obtain ⟨x0, x1, y0, y1, m, rfl, _, _, k0, k1⟩ := Joins.open_agg2 Tryd.underlying44 (by kernel_rfl) (by kernel_rfl) (hval 2 44 v2 rfl rfl) h2
  obtain ⟨o0, ho, _, wo⟩ := DataW.trod_string Tryd.underlying9 k0
  obtain ⟨nw, hn, _, wn⟩ := DataW.trod_int Tryd.underlying3 k1
  simp at ho hn
  subst ho; subst hn
  have hsL : s0.data.toList.length ≤ 9223372036854775807 := by unfold maxLen at hs0; exact hs0
  obtain ⟨l0, rfl⟩ : ∃ l, s0 = strOf l := ⟨s0.data.toList, by unfold strOf; simp⟩
  have hoL : o0.data.toList.length ≤ 9223372036854775807 := by unfold maxLen at wo; exact wo
  obtain ⟨l1, rfl⟩ : ∃ l, o0 = strOf l := ⟨o0.data.toList, by unfold strOf; simp⟩
  refine (torn_walk l0 (by simpa [strOf] using hsL) a1 a2 ha1 ha2 l1 (by simpa [strOf] using hoL) nw W).mono fun e W' ⟨he, hb⟩ => ?_
  subst he
  exact ⟨_, rfl, law_end Tryd.laidOut params rfl Tryd.underlying4 rfl hW' rfl rfl rfl hb⟩
theorem holds : Rows.SectorTornSaid :=
  OpenClaim.holds_of_wide 5 Tryd.f5 rfl rfl rfl rfl rfl rfl rfl ⟨rfl, rfl, rfl, rfl, rfl⟩ rfl rfl rfl rfl rfl (by kernel_rfl) Tryd.func5 (by kernel_rfl)
    (of_decide_eq_true (by kernel_rfl)) (by unfold Func.isWrapper; first | (rw [if_pos (by decide +kernel)]; kernel_rfl) | (rw [if_neg (by decide +kernel)]; exact ⟨rfl, rfl⟩))
    (fun os started H enc _ => lifted os started H enc)
theorem card_holds : Rows.SectorTornCardSaid :=
  Claim7.holds_tied_plain_at .later [] [.data, .pinned] true Rows.sectorTornCard.stood.harness false holds (fun _ h => by cases h) (by kernel_rfl) (fun _ h => by cases h) sectorTorn_row_tie rfl ⟨rfl, rfl⟩ (by kernel_rfl) rfl
    (fun f fn hf hfn => by
      obtain rfl : f = 5 := Option.some.inj ((show Tryd.prog.funcNamed "vendue/venduelaw03.SectorTorn" = some 5 by kernel_rfl).symm.trans hf) |>.symm
      obtain rfl : fn = Tryd.f5 := (Option.some.inj (Tryd.func5.symm.trans hfn)).symm
      exact ⟨by kernel_rfl, fun j t ht => by
        have hm : t ∈ Tryd.f5.params := Array.mem_of_getElem? ht
        have hall : (Tryd.f5.params.toList.all fun u => !Tryd.prog.wantsStandIn u) = true := by kernel_rfl
        exact (show Tryd.prog.wantsStandIn t = false by simpa using List.all_eq_true.1 hall t (by simpa using hm))⟩)
    (by kernel_rfl)
end SectorTorn
end Go.Proofs.YtmcnoekpblkpdaaDoor
