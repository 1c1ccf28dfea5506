/- DiskReads: the walk. -/
import Derived.Test.YtmhmfcphjfgppaaDiskLaw2
namespace Go.Proofs.Ytmhmfcphjfgppaa
open Go.RowKit Go.ChangeShapes Go.WideShapes

abbrev t4u8 : TypeId := 27
/-- What holds between two rounds of DiskReads. -/
def DRInv (W wr : World) (b sb mb lb k : Nat) : Prop :=
  ∃ (last : List UInt8) (d : Dk), last.length = 4 ∧ Blk wr lb t4u8 (byteCells last).toArray ∧ W.heap.size ≤ lb ∧ DkAt W.heap.size W wr b sb mb d ∧ d.left = 0 ∧ d.broken = false ∧ d.secs.length = 4 ∧ d.cache.length ≤ k ∧ ∀ j, j < 4 → d.read j = fillB (last.getD j 0)

theorem DRInv.more {W wr w' : World} {b sb mb lb k : Nat} (h : DRInv W wr b sb mb lb k) (hb : Below wr.heap.size wr w') : DRInv W w' b sb mb lb k := by
  obtain ⟨last, d, q1, q2, q3, q4, q⟩ := h
  exact ⟨last, d, q1, q2.below hb q2.lt, q3, q4.more hb (Nat.le_refl _), q⟩
theorem bits_and3 (x : Int) : ∃ n : Nat, n < 4 ∧ bits .and .i64 x 3 = (n : Int) := by
  refine ⟨((BitVec.ofInt 64 x) &&& (BitVec.ofInt 64 3)).toNat, ?_, ?_⟩
  · rw [BitVec.toNat_and]
    have : (BitVec.ofInt 64 3).toNat = 3 := by decide
    rw [this]
    exact Nat.lt_of_le_of_lt Nat.and_le_right (by decide)
  · have h : ((BitVec.ofInt 64 x) &&& (BitVec.ofInt 64 3)).toNat ≤ 3 := by
      rw [BitVec.toNat_and]
      have : (BitVec.ofInt 64 3).toNat = 3 := by decide
      rw [this]
      exact Nat.and_le_right
    show IntKind.i64.wrap ((BitVec.ofInt 64 x &&& BitVec.ofInt 64 3).toNat : Int) = ((BitVec.ofInt 64 x &&& BitVec.ofInt 64 3).toNat : Int)
    generalize (BitVec.ofInt 64 x &&& BitVec.ofInt 64 3).toNat = m at *
    rw [IntKind.wrap_i64]; omega

theorem byte_of (k : Nat) (h : k < 20) : (1 + (k : Int)) = ((UInt8.ofNat (1 + k)).toNat : Int) := by
  have : (UInt8.ofNat (1 + k)).toNat = 1 + k := by simp; omega
  rw [this]; omega
theorem byteCells_set (l : List UInt8) (n : Nat) {x : Int} {c : UInt8} (h : x = (c.toNat : Int)) : (byteCells l).set n (.int .u8 x) = byteCells (l.set n c) := by
  subst h; simp [byteCells, List.map_set]

set_option maxRecDepth 100000 in
set_option maxHeartbeats 1000000 in
theorem diskReads_walk (v0 v1 : Value) (puts : List Int) (syncs : List Bool) (W : World) (h0 : IntsAt W v0 puts) (h1 : BoolsAt W v1 syncs) :
    Calls Try.prog 3 #[v0, v1] W fun e w' => e = .returned (.bool true) ∧ Below W.heap.size W w' := by
  obtain ⟨A0, c0, rfl, hm0, hp⟩ := h0
  obtain ⟨A1, c1, rfl, hm1, hs⟩ := h1
  have HP := Lib.hid hp
  have HS := Lib.hid hs
  have haw := awake_any W
  have HAW := Lib.hid haw
  clear hp hs haw
  go_enter Try.func3, Try.ntmps3
  go_wp2_with fail
  refine (HAW.out).mono ?_
  rintro e w1 ⟨rfl, hb1⟩
  have HB1 := Lib.hid hb1
  clear hb1 HAW
  go_wp2_with fail
  refine (new_go 4 w1 (by decide) (by decide)).mono ?_
  rintro e w2 ⟨rfl, hD2, _⟩
  have HD2 := Lib.hid hD2
  clear hD2
  go_wp2_with fail
  have hz := Blk.new w2 t4u8 (byteCells [0, 0, 0, 0]).toArray
  have hw2 := HB1.out.size
  obtain ⟨_, _, _, hbb⟩ := HD2.out
  have hw3 := hbb.size
  clear hbb
  go_loopw [8] (fun i wr => ∃ k : Nat, k ≤ 20 ∧ k ≤ puts.length ∧ i = .int .i64 k ∧ DRInv W wr (w1.heap.size + 2) w1.heap.size (w1.heap.size + 1) w2.heap.size k) (fun i _ => puts.length - (intOf i).toNat)
  case atStart =>
    refine ⟨0, by omega, by omega, rfl, [0, 0, 0, 0], newDk 4, rfl, hz, by omega, ((HD2.out.rebase HB1.out).alloc (Nat.le_refl _) _), rfl, rfl, rfl, Nat.le_refl _, ?_⟩
    intro j hj
    have : j = 0 ∨ j = 1 ∨ j = 2 ∨ j = 3 := by omega
    rcases this with rfl | rfl | rfl | rfl <;> rfl
  case round =>
    obtain ⟨k, hk20, hkl, rfl, last, d, hl4, hlb, hle, hD, hd1, hd2, hd3, hd4, hd5⟩ := hrel
    clear hz
    by_cases hlt : k < puts.length
    · by_cases hlt2 : k < 20
      · obtain ⟨pb, po, rfl, hpb, hpc⟩ := HP.out (by omega)
        have hD0 := hD
        obtain ⟨_, _, _, hbW⟩ := hD0
        have hcell := (hbW.cell (p := ⟨pb, po + k, none⟩) hpb).trans (hpc k hlt)
        obtain ⟨n, hn4, hn⟩ := bits_and3 (puts.getD k 0)
        generalize puts.getD k 0 = pk at *
        have hlc := hlb.cell n
        have hlz := hlb.frozen n
        have hlcn : ∃ u, (byteCells last).toArray[n]? = some u := ⟨_, Array.getElem?_eq_getElem (by simp [byteCells, hl4]; omega)⟩
        obtain ⟨u, hu⟩ := hlcn
        rw [hu] at hlc
        obtain ⟨c, hc⟩ : ∃ c : UInt8, (1 + (k : Int)) = (c.toNat : Int) := ⟨_, byte_of k hlt2⟩
        have HC := Lib.hid hc
        clear hc
        have hn0 : (0 : Int) ≤ (n : Int) := by omega
        have hn1 : (n : Int) < 4 := by omega
        have HD := Lib.hid hD
        have HLB := Lib.hid hlb
        have HL4 := Lib.hid hl4
        have HD1 := Lib.hid hd1
        have HD2' := Lib.hid hd2
        have HD3 := Lib.hid hd3
        have HD5 := Lib.hid hd5
        have HBW := Lib.hid hbW
        clear hD hlb hl4 hd1 hd2 hd3 hd5 hu hbW
        go_wp2_with fail
        refine (fill_any (1 + (k : Int)) c HC.out _).mono ?_
        rintro e w4 ⟨rfl, hb4⟩
        have hlb3 := HLB.out.set n (.int .u8 (1 + (k : Int)))
        rw [List.setIfInBounds_toArray, byteCells_set _ _ HC.out] at hlb3
        have hD4 := (HD.out.store HLB.out hle (by decide) (by decide) (by decide) n (.int .u8 (1 + (k : Int)))).more hb4 (Nat.le_refl _)
        have hlb4 := hlb3.below hb4 hlb3.lt
        have HD4 := Lib.hid hD4
        have HLB4 := Lib.hid hlb4
        clear hb4 hlb3 hD4 hlb4
        go_wp2_with fail
        refine (write_go HD4.out (Nat.le_refl _) n n rfl (fillB c) (fillB_length _) (by rw [HD3.out]; exact hn4) (by omega)).mono ?_
        rintro e w5 (⟨hx, _⟩ | ⟨_, rfl, hD5, hk5⟩)
        · rw [HD1.out, HD2'.out] at hx; exact absurd hx (by decide)
        have hlb5 := hk5 _ _ _ HLB4.out (by decide) (by decide) (by decide)
        have hrd5 : ∀ j, j < 4 → (d.write n (fillB c)).read j = fillB ((last.set n c).getD j 0) := by
          intro j hj
          rw [read_write, HD5.out j hj]
          by_cases e : n = j
          · subst e; rw [if_pos rfl]; simp [List.getD, HL4.out, hn4]
          · rw [if_neg e]; simp [List.getD, List.getElem?_set, e]
        have hinv5 : DRInv W w5 (w1.heap.size + 2) w1.heap.size (w1.heap.size + 1) w2.heap.size (k + 1) :=
          ⟨last.set n c, _, by simp [HL4.out], hlb5, hle, hD5, by simp only [Dk.write, Dk.works, leftN, HD1.out]; rfl, by simp only [Dk.write, Dk.works, brokeN, HD1.out, HD2'.out]; rfl, HD3.out, by simp [Dk.write]; omega, hrd5⟩
        have HI := Lib.hid hinv5
        clear hinv5 hrd5 hlb5 hD5 hk5 HD4 HLB4 HD HLB hlc hlz hcell hpc
        obtain ⟨last5, d5, q1, q2, q3, q4, q5, q6, q7, q8, q9⟩ := HI.out
        have q4' := q4
        obtain ⟨_, _, _, hbW5⟩ := q4'
        have Q1 := Lib.hid q1
        have Q2 := Lib.hid q2
        have Q3 := Lib.hid q3
        have Q4 := Lib.hid q4
        have Q5 := Lib.hid q5
        have Q6 := Lib.hid q6
        have Q7 := Lib.hid q7
        have Q9 := Lib.hid q9
        clear q1 q2 q3 q4 q5 q6 q7 q8 q9
        have hcs : syncs.length ≤ k ∨ (k < syncs.length ∧ syncs.getD k false = false) ∨ (k < syncs.length ∧ syncs.getD k false = true) := by
          rcases Nat.lt_or_ge k syncs.length with h | h
          · right; cases hh : syncs.getD k false
            · exact .inl ⟨h, rfl⟩
            · exact .inr ⟨h, rfl⟩
          · exact .inl h
        rcases hcs with h | ⟨h, hbv⟩ | ⟨h, hbv⟩
        focus
          have hdk : decide ((k : Int) < (syncs.length : Int)) = false := by simp; omega
          clear hbW5
          go_wp2_with fail
        rotate_left
        focus
          obtain ⟨sbk, so, rfl, hsb, hsc⟩ := HS.out (by omega)
          have hcell := (hbW5.cell (p := ⟨sbk, so + k, none⟩) hsb).trans (hsc k h)
          rw [hbv] at hcell
          clear hbv hsc hbW5
          go_wp2_with fail
        rotate_left
        focus
          obtain ⟨sbk, so, rfl, hsb, hsc⟩ := HS.out (by omega)
          have hcell := (hbW5.cell (p := ⟨sbk, so + k, none⟩) hsb).trans (hsc k h)
          rw [hbv] at hcell
          clear hbv hsc hbW5
          go_wp2_with fail
        rotate_left
        rotate_left
        rotate_left
        focus
          refine (sync_go Q4.out (Nat.le_refl _)).mono ?_
          rintro e w6 (⟨hx, _⟩ | ⟨_, rfl, hD6, hk6⟩)
          · rw [Q5.out, Q6.out] at hx; exact absurd hx (by decide)
          obtain ⟨last6, d6, q1, q2, q3, q4, q5, q6, q7, q8, q9⟩ := HI.out
          have hinv6 : DRInv W w6 (w1.heap.size + 2) w1.heap.size (w1.heap.size + 1) w2.heap.size (k + 1) := by
            refine ⟨last5, d5.sync, Q1.out, hk6 _ _ _ Q2.out (by decide) (by decide) (by decide), Q3.out, hD6, ?_, ?_, ?_, by simp [Dk.sync], ?_⟩
            · simp only [Dk.sync, Dk.works, leftN, Q5.out]; rfl
            · simp only [Dk.sync, Dk.works, brokeN, Q5.out, Q6.out]; rfl
            · simp only [Dk.sync]; rw [syncSecs_length]; exact Q7.out
            · intro j hj
              obtain ⟨_, hd, _, _⟩ := Q4.out
              rw [read_sync hd.ok, Q9.out j hj]
          have HI6 := Lib.hid hinv6
          clear hinv6 hD6 hk6 HI q1 q2 q3 q4 q5 q6 q7 q8 q9
          have HI := HI6
          clear HI6
          go_wp2_with fail
        rotate_left
        all_goals
          clear Q1 Q2 Q3 Q4 Q5 Q6 Q7 Q9
          go_loopw [10] (fun i wq => ∃ j : Nat, j ≤ 4 ∧ i = .int .i64 j ∧ DRInv W wq (w1.heap.size + 2) w1.heap.size (w1.heap.size + 1) w2.heap.size (k + 1)) (fun i _ => 4 - (intOf i).toNat)
          case atStart => exact ⟨0, by omega, rfl, HI.out⟩
          case round =>
            clear HI
            obtain ⟨j, hj4, rfl, hinv⟩ := hrel
            have HI := Lib.hid hinv
            clear hinv
            by_cases hjl : j < 4
            · obtain ⟨last6, d6, q1, q2, q3, q4, q5, q6, q7, q8, q9⟩ := HI.out
              have hlc := q2.cell j
              have hlcn : (byteCells last6).toArray[j]? = some (.int .u8 ((last6.getD j 0).toNat : Int)) := by simp [byteCells, List.getD, q1, hjl]
              rw [hlcn] at hlc
              have Q2 := Lib.hid q2
              have Q4 := Lib.hid q4
              have Q6 := Lib.hid q6
              have Q7 := Lib.hid q7
              have Q9 := Lib.hid q9
              have Q1 := Lib.hid q1
              have Q3 := Lib.hid q3
              have Q5 := Lib.hid q5
              have Q8 := Lib.hid q8
              clear hlcn q1 q2 q3 q4 q5 q6 q7 q8 q9 hlc
              have hj1 : (j : Int) < 4 := by omega
              go_wp2_with fail
              refine (read_go Q4.out (Nat.le_refl _) j j rfl (by rw [Q7.out]; exact hjl)).mono ?_
              rintro e w7 ⟨⟨hx, _⟩ | ⟨_, rfl⟩, hD7, hk7⟩
              · rw [Q6.out] at hx; cases hx
              have hlb7 := hk7 _ _ _ Q2.out (by decide) (by decide) (by decide)
              have hlc := hlb7.cell j
              have hlcn : (byteCells last6).toArray[j]? = some (.int .u8 ((last6.getD j 0).toNat : Int)) := by simp [byteCells, List.getD, Q1.out, hjl]
              rw [hlcn] at hlc
              rw [Q9.out j hjl]
              have HI7 : Hid (DRInv W w7 (w1.heap.size + 2) w1.heap.size (w1.heap.size + 1) w2.heap.size (k + 1)) := Lib.hid ⟨last6, d6, Q1.out, hlb7, Q3.out, hD7, Q5.out, Q6.out, Q7.out, Q8.out, Q9.out⟩
              generalize hlx : last6.getD j 0 = lx at *
              clear hlx hlcn hlb7 hD7 hk7 HI
              go_wp2_with fail
              refine (fill_any _ lx rfl _).mono ?_
              rintro e w8 ⟨rfl, hb8⟩
              have HI8 := Lib.hid (HI7.out.more hb8)
              clear hb8 HI7 hlc
              go_wp2
              go_roundw
              case rel => exact ⟨j + 1, by omega, by go_num, HI8.out⟩
              case measure => simp [intOf]; omega
            · obtain rfl : j = 4 := by omega
              go_wp2
              go_roundw
              case rel => exact ⟨k + 1, by omega, by omega, by go_num, HI.out⟩
              case measure => simp [intOf]; omega
      · obtain ⟨_, _, _, hb⟩ := hD
        have hdk : decide ((k : Int) < 20) = false := by simp; omega
        go_wp2
        go_ret
        exact ⟨rfl, hb⟩
    · obtain ⟨_, _, _, hb⟩ := hD
      have hdk : decide ((k : Int) < (puts.length : Int)) = false := by simp; omega
      go_wp2
      go_ret
      exact ⟨rfl, hb⟩

theorem Try.own : ownKnob Try.prog.godebug = none := by kernel_rfl
theorem Try.laidOut : laidOutB Try.prog = true := by kernel_rfl

namespace DiskReads
theorem params : ∀ t ∈ Try.f3.params.toList, Try.prog.readableRec t = true ∧ t < Try.prog.types.size := by
  have h : (Try.f3.params.toList.all fun t => Try.prog.readableRec t && decide (t < Try.prog.types.size)) = true := by kernel_rfl
  intro t ht
  have := List.all_eq_true.1 h t ht
  simpa using this
set_option maxRecDepth 100000 in
theorem lifted (os : Os) (started : os.Started) (H : Type) (enc : TypeId × Value → H) :
    ReturnsInHanded {} Try.checked os 3 .any (Rows.diskReadsSpec.pre6 enc Try.prog Try.f3 Rows.diskReadsRow.domain false) (Rows.diskReadsSpec.post enc Try.prog Try.f3 false true false false) := by
  refine returnsInHanded_of_change (C := Try.checked) Try.own started (by kernel_rfl) Try.func3
    (ChangeSpec.witness6 (enc := enc) (C := Try.checked) false ⟨#[], #[.slice none 0 0, .slice none 0 0], []⟩ 8 (by kernel_rfl) (by kernel_rfl) (by kernel_rfl) (by kernel_rfl)) ?_
  intro W base args ds gs before hval0 hW hcnd _
  have hval : ∀ (j : Nat) t v, Try.f3.params[j]? = some t → args[j]? = some v → Value.okWide Try.prog W .any base t v := hval0
  have hW' := hW
  obtain ⟨p, q, hA0, hV, rfl, hfz, hnd⟩ := hW
  have hA : DataW.TrodAll enc Try.prog W 0 (fun _ => true) true Try.f3.params.toList args.toList ds p := hA0
  rw [Try.params3] at hA hval
  obtain ⟨v0, v1, d0, d1, p0, p1, rfl, rfl, rfl, h0, h1⟩ := trodAll_two hA
  obtain ⟨rfl, rfl⟩ := trodVars_none hV
  obtain ⟨_, _, _, rfl⟩ := okWide_slice Try.underlying22 (hval 0 22 v0 rfl rfl)
  obtain ⟨_, _, _, rfl⟩ := okWide_slice Try.underlying23 (hval 1 23 v1 rfl rfl)
  obtain ⟨puts, hp, _⟩ := open_intsAt Try.underlying22 Try.underlying3 (by kernel_rfl) h0 rfl
  obtain ⟨syncs, hs⟩ := open_boolsAt Try.underlying23 Try.underlying4 (by kernel_rfl) h1 rfl
  refine (diskReads_walk _ _ puts syncs W hp hs).mono fun e W' ⟨he, hb⟩ => ?_
  subst he
  exact ⟨_, rfl, law_end Try.laidOut params rfl Try.underlying4 rfl hW' rfl rfl rfl hb⟩

theorem holds : Rows.DiskReadsSaid :=
  OpenClaim.holds_of_wide 3 Try.f3 rfl rfl rfl rfl rfl rfl rfl ⟨rfl, rfl, rfl, rfl, rfl⟩ rfl rfl rfl rfl rfl (by kernel_rfl) Try.func3 (by kernel_rfl)
    (of_decide_eq_true (by kernel_rfl)) (by unfold Func.isWrapper; first | (rw [if_pos (by decide +kernel)]; kernel_rfl) | (rw [if_neg (by decide +kernel)]; exact ⟨rfl, rfl⟩))
    (fun os started H enc _ => lifted os started H enc)
end DiskReads
end Go.Proofs.Ytmhmfcphjfgppaa
