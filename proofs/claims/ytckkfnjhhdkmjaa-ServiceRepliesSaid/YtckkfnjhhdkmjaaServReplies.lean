/- ServiceReplies: the walk, the row. -/
import Derived.Test.YtckkfnjhhdkmjaaServ1
import Derived.Deep.Cut
namespace Go.Proofs.Ytckkfnjhhdkmjaa
open Go.RowKit Go.ChangeShapes Go.WideShapes

theorem read_three (a b c : Nat) (ha : a ≤ 1048576) (hb : b ≤ 1048576) (hc : c ≤ 1048576) (rest : List UInt8) :
    rdN (numB a ++ (numB b ++ (numB c ++ rest)), false) 1048576 = a ∧ rdN (st1 (numB a ++ (numB b ++ (numB c ++ rest)))) 1048576 = b ∧ rdN (st2 (numB a ++ (numB b ++ (numB c ++ rest)))) 1048576 = c ∧ st3 (numB a ++ (numB b ++ (numB c ++ rest))) = (rest, false) := by
  obtain ⟨a1, a2⟩ := rdN_num a 1048576 _ (by omega) ha (read_num a 1048576 (numB b ++ (numB c ++ rest)) (by omega) ha)
  obtain ⟨b1, b2⟩ := rdN_num b 1048576 _ (by omega) hb (read_num b 1048576 (numB c ++ rest) (by omega) hb)
  obtain ⟨c1, c2⟩ := rdN_num c 1048576 _ (by omega) hc (read_num c 1048576 rest (by omega) hc)
  simp only [st3, st2, st1, a1, a2, b1, b2, c1, c2, and_self]
theorem numsB_three (a b c : Nat) (ha : a ≤ 1048576) (hb : b ≤ 1048576) (hc : c ≤ 1048576) : numsB [(a : Int), (b : Int), (c : Int)] = numB a ++ (numB b ++ (numB c ++ [])) := by
  have h : ∀ n : Nat, n ≤ 1048576 → clampN (n : Int) = n := fun n hn => by unfold clampN; rw [if_neg (by omega)]; simp
  simp only [numsB, List.flatMap_cons, List.flatMap_nil, h a ha, h b hb, h c hc]
theorem rrV_three (a b c : Nat) (ha : a ≤ 1048576) (hb : b ≤ 1048576) (hc : c ≤ 1048576) : rrV (numsB [(a : Int), (b : Int), (c : Int)]) = .tuple #[.int .i64 a, .int .i64 b, .int .i64 c, .bool true] := by
  rw [numsB_three a b c ha hb hc]
  obtain ⟨h1, h2, h3, h4⟩ := read_three a b c ha hb hc []
  unfold rrV
  rw [h1, h2, h3, h4]
  rfl
theorem rrV_more (a b c : Nat) (ha : a ≤ 1048576) (hb : b ≤ 1048576) (hc : c ≤ 1048576) : rrV (numsB [(a : Int), (b : Int), (c : Int)] ++ [0]) = .tuple #[.int .i64 0, .int .i64 0, .int .i64 0, .bool false] := by
  have e : numsB [(a : Int), (b : Int), (c : Int)] ++ [0] = numB a ++ (numB b ++ (numB c ++ [0])) := by rw [numsB_three a b c ha hb hc]; simp
  rw [e]
  obtain ⟨h1, h2, h3, h4⟩ := read_three a b c ha hb hc [0]
  unfold rrV
  rw [h1, h2, h3, h4]
  rfl
theorem bits_low (x : Int) : ∃ n : Nat, n ≤ 1048575 ∧ bits .and .i64 x 1048575 = (n : Int) := by
  refine ⟨((BitVec.ofInt 64 x) &&& (BitVec.ofInt 64 1048575)).toNat, ?_, ?_⟩
  · rw [BitVec.toNat_and]
    have : (BitVec.ofInt 64 1048575).toNat = 1048575 := by decide
    rw [this]
    exact Nat.and_le_right
  · have h : ((BitVec.ofInt 64 x) &&& (BitVec.ofInt 64 1048575)).toNat ≤ 1048575 := by
      rw [BitVec.toNat_and]
      have : (BitVec.ofInt 64 1048575).toNat = 1048575 := by decide
      rw [this]
      exact Nat.and_le_right
    show IntKind.i64.wrap ((BitVec.ofInt 64 x &&& BitVec.ofInt 64 1048575).toNat : Int) = ((BitVec.ofInt 64 x &&& BitVec.ofInt 64 1048575).toNat : Int)
    generalize (BitVec.ofInt 64 x &&& BitVec.ofInt 64 1048575).toNat = m at *
    rw [IntKind.wrap_i64]; omega

theorem x_low {P : Program} {a : Act} {o : Oper} {w : World} {ty t2 : TypeId} {x y : Operand} {xv K : Int} {v : Value} (ho : o.op = .binOp .and ty x y t2) (hx : a.eval x = .int .i64 xv) (hy : a.eval y = .int .i64 K) (hv : Value.int .i64 (bits .and .i64 xv K) = v) :
    (execOp a.eval o).run P w = .ok (.value v) w := by
  subst hv
  unfold execOp
  simp only [ho, hx, hy]
  simp [eqGuard, binOp, Op.intBits]
  rfl

abbrev tAuction : TypeId := 33
def auV (p r : Int) : List Value := [.slice none 0 0, .int .i64 0, .int .i64 0, .int .i64 0, .int .i64 0, .int .i64 0, .int .i64 0, .int .i64 0, .int .i64 0, .int .i64 0, .int .u64 0, .int .i64 p, .int .i64 r, .int .i64 0, .slice none 0 0, .slice none 0 0, .slice none 0 0, .slice none 0 0]
set_option maxRecDepth 100000 in
theorem run_build_a (p r : Int) (w : World) : (Instr.build tAuction #[(1, .int .i64 p), (2, .int .i64 r)]).run Try.prog w = .ok (.agg (auV p r).toArray) w := by kernel_rfl
theorem zeroAuction : (Try.prog.info? tAuction).map (·.zero) = some (some (.agg (auV 0 0).toArray)) := by kernel_rfl
theorem sizeAuction : (Try.prog.info? tAuction).map (·.size) = some 18 := by kernel_rfl
theorem auV_length (p r : Int) : (auV p r).length = 18 := rfl
theorem auV_fit (p r p' r' : Int) : 0 + (auV p r).length ≤ (auV p' r').length := by rw [auV_length, auV_length]; omega
theorem auV_size (p r : Int) : (Try.prog.info? tAuction).map (·.size) = some (auV p r).length := sizeAuction
theorem auV_splice (p r p' r' : Int) : splice (auV p' r') 0 (auV p r) = auV p r := rfl
theorem auV_take (p r : Int) : ((auV p r).drop 0).take 18 = auV p r := rfl
theorem auV_fit18 (p r : Int) : 0 + 18 ≤ (auV p r).length := by rw [auV_length]; omega
theorem L_store_new {P : Program} {ops : Array Oper} {Q : Exit → Act → World → Prop} {rest : List Oper} {o : Oper} {a : Act} {w : World} (hgd : o.guard = none) (ty : TypeId) (x y : Operand) (ho : o.op = .store ty x y) (t : TypeId) (cs0 cs : List Value)
    (hx : a.eval x = .pointer (some ⟨w.heap.size, 0, none⟩)) (hy : a.eval y = .agg cs.toArray) (hlen : cs.length = cs0.length) (hi : (P.info? ty).map (·.size) = some cs.length) (h1 : ∀ v ∈ cs, v.oneCell' = true)
    (h : wpList P ops Q rest (a.put o.dst undef) (w.alloc (.cells cs.toArray t))) : wpList P ops Q (o :: rest) a (w.alloc (.cells cs0.toArray t)) := by
  refine L_store hgd ty x y ho w.heap.size 0 t cs0 cs hx hy (Blk.new _ _ _) hi (by omega) h1 ?_
  rw [setCells_alloc _ _ _ _ _ (by omega)]
  have e : splice cs0 0 cs = cs := by unfold splice; simp [hlen]
  rw [e]
  exact h
theorem auV_len (p r p' r' : Int) : (auV p r).length = (auV p' r').length := rfl
theorem auV_one (p r : Int) : ∀ v ∈ auV p r, v.oneCell' = true := by
  intro v hv
  simp only [auV, List.mem_cons, List.not_mem_nil, or_false] at hv
  rcases hv with rfl | rfl | rfl | rfl | rfl | rfl | rfl | rfl | rfl | rfl | rfl | rfl | rfl | rfl | rfl | rfl | rfl | rfl <;> rfl

set_option maxHeartbeats 400000 in
set_option maxRecDepth 100000 in
theorem awake_any (w : World) : Calls Try.prog 4 #[] w fun e w' => e = .returned (.bool true) ∧ Below w.heap.size w w' := by
  have hn : numsB [((0 : Nat) : Int), ((1 : Nat) : Int), ((3 : Nat) : Int)] = [0, 1, 3] := by decide +kernel
  have hv := rrV_three 0 1 3 (by decide) (by decide) (by decide)
  rw [hn] at hv
  have HR := Lib.hid (readReply_any [0, 1, 3] w)
  rw [hv] at HR
  have HN2 : Hid (numsB [(0 : Int), 1, 3] = [0, 1, 3]) := Lib.hid hn
  clear hn hv
  go_enter Try.func4, Try.ntmps4
  go_wp2_with fail
  refine (HR.out).mono ?_
  rintro e w1 ⟨rfl, hb1⟩
  have HB1 := Lib.hid hb1
  clear hb1 HR
  have hl : (strOf [0, 1, 3]).toList = [0, 1, 3] := by rw [strOf, ByteArray.toList_mk]
  go_wp2_with (first
    | (go_at_call 5; refine (reply_any 0 (auV 1 3) 1 3 rfl rfl rfl _).mono ?_; rintro e w2 ⟨rfl, hb2⟩; rw [HN2.out])
    | (refine L_build rfl tAuction [(1, .const (.int .i64 1)), (2, .const (.int .i64 3))] rfl [(1, .int .i64 1), (2, .int .i64 3)] rfl (run_build_a 1 3 w1) ?_))
  go_ret
  exact ⟨rfl, HB1.out.trans (hb2.mono HB1.out.size)⟩

set_option maxHeartbeats 8000000 in
set_option maxRecDepth 100000 in
theorem serviceReplies_walk (e0 p r : Int) (W : World) :
    Calls Try.prog 3 #[.int .i64 e0, .int .i64 p, .int .i64 r] W fun e w' => e = .returned (.bool true) ∧ Below W.heap.size W w' := by
  have HAW := Lib.hid (awake_any W)
  obtain ⟨a, ha, ea⟩ := bits_low e0
  obtain ⟨b, hb, eb⟩ := bits_low p
  obtain ⟨c, hc, ec⟩ := bits_low r
  have HABC := Lib.hid (And.intro ha (And.intro hb hc))
  have EA := Lib.hid ea
  have EB := Lib.hid eb
  have EC := Lib.hid ec
  clear ha hb hc ea eb ec
  go_enter Try.func3, Try.ntmps3
  go_wp2_with fail
  refine (HAW.out).mono ?_
  rintro e w1 ⟨rfl, hb1⟩
  have HB1 := Lib.hid hb1
  clear hb1 HAW
  go_upto_region 3 with (refine L_of rfl fun _ hK => wp_val (x_low (xv := e0) (K := 1048575) rfl rfl rfl (congrArg _ EA.out)) (hK _ _ ?_))
  go_upto_region 4 with (first
    | (refine L_of rfl fun _ hK => wp_val (x_low (xv := p) (K := 1048575) rfl rfl rfl (congrArg _ EB.out)) (hK _ _ ?_))
    | (refine L_of rfl fun _ hK => wp_val (x_low (xv := r) (K := 1048575) rfl rfl rfl (congrArg _ EC.out)) (hK _ _ ?_))
    | (refine L_build rfl tAuction [(1, .tmp 23), (2, .tmp 25)] rfl [(1, .int .i64 (b : Int)), (2, .int .i64 (c : Int))] rfl (run_build_a b c w1) ?_)
    | (refine L_alloc rfl tAuction rfl zeroAuction ?_)
    | (refine L_store_new rfl tAuction (.tmp 9) (.tmp 26) rfl tAuction (auV 0 0) (auV b c) rfl rfl (auV_len _ _ _ _) (auV_size _ _) (auV_one _ _) ?_))
  go_wp2_with (first
    | (go_at_call 5; refine (reply_any (a : Int) (auV b c) (b : Int) (c : Int) rfl rfl rfl _).mono ?_; rintro e w2 ⟨rfl, hb2⟩)
    | (go_at_call 6; fail)
    | (refine L_load_as rfl tAuction (.tmp 9) rfl w1.heap.size 0 18 tAuction (auV b c) (auV b c) rfl (Blk.new _ _ _) Try.underlying33 rfl sizeAuction (auV_fit18 _ _) (auV_take _ _) ?_))
  have hA2 := (Blk.new w1 tAuction (auV b c).toArray).below hb2 (by simp)
  have HB2 := Lib.hid ((HB1.out.alloc HB1.out.size (.cells (auV b c).toArray tAuction)).trans (hb2.mono (by simp; have := HB1.out.size; omega)))
  have HA2 := Lib.hid hA2
  clear hb2 hA2
  have HV1 := Lib.hid (rrV_three a b c (by have := HABC.out; omega) (by have := HABC.out; omega) (by have := HABC.out; omega))
  have HV2 := Lib.hid (rrV_more a b c (by have := HABC.out; omega) (by have := HABC.out; omega) (by have := HABC.out; omega))
  have hsz : (strOf (numsB [(a : Int), (b : Int), (c : Int)])).size ≤ 27 := numsB_size _
  generalize numsB [(a : Int), (b : Int), (c : Int)] = sB at *
  refine (readReply_any sB _).mono ?_
  rintro e w3 ⟨rfl, hb3⟩
  have hA3 := HA2.out.below hb3 HA2.out.lt
  have HB3 := Lib.hid (HB2.out.trans (hb3.mono HB2.out.size))
  have HA3 := Lib.hid hA3
  clear hb3 hA3 HA2 HB2
  rw [HV1.out]
  go_wp2_with fail
  rw [show strOf sB ++ { data := #[0] } = strOf (sB ++ [0]) from strOf_append sB [0]]
  refine (readReply_any (sB ++ [0]) _).mono ?_
  rintro e w4 ⟨rfl, hb4⟩
  have hA4 := HA3.out.below hb4 HA3.out.lt
  have HB4 := Lib.hid (HB3.out.trans (hb4.mono HB3.out.size))
  have hc11 : w4.cell? ⟨w1.heap.size, 11, none⟩ = some (.int .i64 (b : Int)) := hA4.cell 11
  have hc12 : w4.cell? ⟨w1.heap.size, 12, none⟩ = some (.int .i64 (c : Int)) := hA4.cell 12
  clear hb4 hA4 HA3 HB3
  rw [HV2.out]
  go_wp2_with fail
  go_ret
  exact ⟨by show Ending.returned (.bool (decide (((strOf sB).size : Int) ≤ 40))) = _; rw [decide_eq_true (by omega)], HB4.out⟩

namespace ServiceReplies
theorem Try.own : ownKnob Try.prog.godebug = none := by kernel_rfl
theorem Try.laidOut : laidOutB Try.prog = true := by kernel_rfl
theorem params : ∀ t ∈ Try.f3.params.toList, Try.prog.readableRec t = true ∧ t < Try.prog.types.size := by
  have h : (Try.f3.params.toList.all fun t => Try.prog.readableRec t && decide (t < Try.prog.types.size)) = true := by kernel_rfl
  intro t ht
  have := List.all_eq_true.1 h t ht
  simpa using this
set_option maxRecDepth 100000 in
theorem lifted (os : Os) (started : os.Started) (H : Type) (enc : TypeId × Value → H) :
    ReturnsInHanded {} Try.checked os 3 .any (Rows.serviceRepliesSpec.pre6 enc Try.prog Try.f3 Rows.serviceRepliesRow.domain false) (Rows.serviceRepliesSpec.post enc Try.prog Try.f3 false true false false) := by
  refine returnsInHanded_of_change (C := Try.checked) Try.own started (by kernel_rfl) Try.func3
    (ChangeSpec.witness6 (enc := enc) (C := Try.checked) false ⟨#[], #[.int .i64 0, .int .i64 0, .int .i64 0], []⟩ 8 (by kernel_rfl) (by kernel_rfl) (by kernel_rfl) (by kernel_rfl)) ?_
  intro W base args ds gs before hval0 hW hcnd _
  have hval : ∀ (j : Nat) t v, Try.f3.params[j]? = some t → args[j]? = some v → Value.okWide Try.prog W .any base t v := hval0
  have hW' := hW
  obtain ⟨p, q, hA0, hV, rfl, hfz, hnd⟩ := hW
  have hA : DataW.TrodAll enc Try.prog W 0 (fun _ => true) true Try.f3.params.toList args.toList ds p := hA0
  rw [Try.params3] at hA hval
  obtain ⟨v0, v1, v2, d0, d1, d2, p0, p1, p2, rfl, rfl, rfl, h0, h1, h2⟩ := trodAll_three hA
  obtain ⟨rfl, rfl⟩ := trodVars_none hV
  obtain ⟨n0, rfl⟩ := okWide_int Try.underlying3 (hval 0 3 v0 rfl rfl)
  obtain ⟨n1, rfl⟩ := okWide_int Try.underlying3 (hval 1 3 v1 rfl rfl)
  obtain ⟨n2, rfl⟩ := okWide_int Try.underlying3 (hval 2 3 v2 rfl rfl)
  refine (serviceReplies_walk n0 n1 n2 W).mono fun e W' ⟨he, hb⟩ => ?_
  subst he
  exact ⟨_, rfl, law_end Try.laidOut params rfl Try.underlying4 rfl hW' rfl rfl rfl hb⟩

theorem holds : Rows.ServiceRepliesSaid :=
  OpenClaim.holds_of_wide 3 Try.f3 rfl rfl rfl rfl rfl rfl rfl ⟨rfl, rfl, rfl, rfl, rfl⟩ rfl rfl rfl rfl rfl (by kernel_rfl) Try.func3 (by kernel_rfl)
    (of_decide_eq_true (by kernel_rfl)) (by unfold Func.isWrapper; first | (rw [if_pos (by decide +kernel)]; kernel_rfl) | (rw [if_neg (by decide +kernel)]; exact ⟨rfl, rfl⟩))
    (fun os started H enc _ => lifted os started H enc)
end ServiceReplies
end Go.Proofs.Ytckkfnjhhdkmjaa
