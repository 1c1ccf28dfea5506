/- DiskBreaks: the walk. -/
import Derived.Test.YtmhmfcphjfgppaaDisk7
import Derived.Test.YtmhmfcphjfgppaaDiskReads
namespace Go.Proofs.Ytmhmfcphjfgppaa
open Go.RowKit Go.ChangeShapes Go.WideShapes

section
variable {B b sb mb : Nat} {w0 w : World} {d : Dk}
theorem crash_go (hD : DkAt B w0 w b sb mb d) (h0 : B ≤ w0.heap.size) {fv : Value} {fs : List (Int × Int)} (hf : FatesAt w fv fs) :
    Calls Try.prog 17 #[.pointer (some ⟨b, 0, none⟩), fv] w fun e w' => e = .returned (.bool (crashLess fs d.cache.length)) ∧ DkAt B w0 w' b sb mb (d.crash fs) ∧ KeepsT w w' := by
  obtain ⟨cv, h1, h2, h3⟩ := hD
  refine (crash_ok h1 hf).mono ?_
  rintro e w' ⟨rfl, ht⟩
  exact ⟨rfl, ht.at h2 h3 h0, fun g t cs hg a1 a2 a3 => ht.blk h1 hg a1 a2 a3⟩
end

/-- What holds between two rounds of DiskBreaks. -/
def DBInv (W wr : World) (b sb mb : Nat) (k i : Nat) : Prop :=
  ∃ d : Dk, DkAt W.heap.size W wr b sb mb d ∧ d.left = ((k - i : Nat) : Int) ∧ d.broken = decide (k ≤ i) ∧ d.secs.length = 4 ∧ d.cache.length ≤ i

theorem DBInv.more {W wr w' : World} {b sb mb k i : Nat} (h : DBInv W wr b sb mb k i) (hb : Below wr.heap.size wr w') : DBInv W w' b sb mb k i := by
  obtain ⟨d, q1, q⟩ := h
  exact ⟨d, q1.more hb (Nat.le_refl _), q⟩
def DBStep (W : World) (b sb mb k i : Nat) (e : Ending) (w' : World) : Prop :=
  ((k ≤ i + 1 ∧ e = .returned (.int .i64 18)) ∨ (i + 1 < k ∧ e = .returned (.int .i64 0))) ∧ DBInv W w' b sb mb k (i + 1)
theorem db_works {k i : Nat} (hk : 1 ≤ k) : brokeN ((k - i : Nat) : Int) (decide (k ≤ i)) = decide (k ≤ i + 1) := by
  unfold brokeN
  by_cases h : k ≤ i
  · simp [h]; omega
  · simp [h]; omega
theorem db_left {k i : Nat} : leftN ((k - i : Nat) : Int) = ((k - (i + 1) : Nat) : Int) := by
  unfold leftN
  split <;> omega
theorem db_write {W w : World} {b sb mb k i : Nat} (h : DBInv W w b sb mb k i) (hk : 1 ≤ k) (hi : i < 24) (n : Int) (at' : Nat) (hn : n = (at' : Int)) (hat : at' < 4) (c : UInt8) :
    Calls Try.prog 11 #[.pointer (some ⟨b, 0, none⟩), .int .i64 n, .string (strOf (fillB c))] w (DBStep W b sb mb k i) := by
  obtain ⟨d, hD, h1, h2, h3, h4⟩ := h
  refine (write_go hD (Nat.le_refl _) n at' hn (fillB c) (fillB_length c) (by rw [h3]; exact hat) (by omega)).mono ?_
  have hb := db_works (i := i) hk
  rw [← h1, ← h2] at hb
  have hl := db_left (k := k) (i := i)
  rw [← h1] at hl
  rintro e w' (⟨hx, rfl, hd, _⟩ | ⟨hx, rfl, hd, _⟩)
  · rw [hb] at hx
    exact ⟨.inl ⟨by simpa using hx, rfl⟩, _, hd, hl, hb, h3, by simp [Dk.works]; omega⟩
  · rw [hb] at hx
    exact ⟨.inr ⟨by simpa using hx, rfl⟩, _, hd, hl, hb, h3, by simp [Dk.write]; omega⟩
theorem db_sync {W w : World} {b sb mb k i : Nat} (h : DBInv W w b sb mb k i) (hk : 1 ≤ k) :
    Calls Try.prog 13 #[.pointer (some ⟨b, 0, none⟩)] w (DBStep W b sb mb k i) := by
  obtain ⟨d, hD, h1, h2, h3, h4⟩ := h
  refine (sync_go hD (Nat.le_refl _)).mono ?_
  have hb := db_works (i := i) hk
  rw [← h1, ← h2] at hb
  have hl := db_left (k := k) (i := i)
  rw [← h1] at hl
  rintro e w' (⟨hx, rfl, hd, _⟩ | ⟨hx, rfl, hd, _⟩)
  · rw [hb] at hx
    exact ⟨.inl ⟨by simpa using hx, rfl⟩, _, hd, hl, hb, h3, by simp [Dk.works]; omega⟩
  · rw [hb] at hx
    exact ⟨.inr ⟨by simpa using hx, rfl⟩, _, hd, hl, hb, by simp only [Dk.sync]; rw [syncSecs_length]; exact h3, by simp [Dk.sync]⟩
theorem db_broken {W w : World} {b sb mb k i : Nat} (h : DBInv W w b sb mb k i) : Calls Try.prog 16 #[.pointer (some ⟨b, 0, none⟩)] w fun e w' => e = .returned (.bool (decide (k ≤ i))) ∧ w = w' := by
  obtain ⟨d, hD, h1, h2, h3, h4⟩ := h
  have := broken_go hD
  rwa [h2] at this
set_option maxRecDepth 100000 in
set_option maxHeartbeats 1000000 in
theorem diskBreaks_walk (n : Int) (v1 : Value) (syncs : List Bool) (W : World) (h1 : BoolsAt W v1 syncs) :
    Calls Try.prog 4 #[.int .i64 n, v1] W fun e w' => e = .returned (.bool true) ∧ Below W.heap.size W w' := by
  obtain ⟨A1, c1, rfl, hm1, hs⟩ := h1
  have HS := Lib.hid hs
  have haw := awake_any W
  have HAW := Lib.hid haw
  clear hs haw
  have h1 := Int.tmod_lt_of_pos n (show (0 : Int) < 20 by decide)
  have h2 := Int.lt_tmod_of_pos n (show (0 : Int) < 20 by decide)
  have hz0 := Int.emod_nonneg n (show (20 : Int) ≠ 0 by decide)
  have hz1 := Int.emod_lt_of_pos n (show (0 : Int) < 20 by decide)
  have hf := tmod_fix n 20 (by decide)
  obtain ⟨z, hz⟩ : ∃ z : Nat, n % 20 = (z : Int) := ⟨(n % 20).toNat, by omega⟩
  rw [hz] at hf hz0 hz1
  clear hz
  go_enter Try.func4, Try.ntmps4
  go_wp2_with fail
  refine (HAW.out).mono ?_
  rintro e w1 ⟨rfl, hb1⟩
  have HB1 := Lib.hid hb1
  clear hb1 HAW
  go_wp2_with fail
  refine (new_go 4 w1 (by decide) (by decide)).mono ?_
  rintro e w2 ⟨rfl, hD2, _⟩
  have HD2 := Lib.hid hD2
  clear hD2
  go_wp2_with fail
  refine (break_go HD2.out (Nat.le_refl _) (1 + (z : Int)) (by omega)).mono ?_
  rintro e w3 ⟨rfl, hD3, _⟩
  have HD3 := Lib.hid hD3
  clear hD3
  go_wp2_with fail
  have hw2 := HB1.out.size
  go_loopw [8] (fun i wr => ∃ k : Nat, k ≤ 24 ∧ i = .int .i64 k ∧ DBInv W wr (w1.heap.size + 2) w1.heap.size (w1.heap.size + 1) (1 + z) k) (fun i _ => 24 - (intOf i).toNat)
  case atStart => exact ⟨0, by omega, rfl, _, HD3.out.rebase HB1.out, by simp only [Dk.brk]; omega, by simp [Dk.brk, newDk], rfl, by simp [Dk.brk, newDk]⟩
  case round =>
    obtain ⟨k, hk, rfl, hI⟩ := hrel
    have HI := Lib.hid hI
    clear hI
    by_cases hlt : k < 24
    · have hbW : Below W.heap.size W wr := by obtain ⟨_, ⟨_, _, _, hbW⟩, _⟩ := HI.out; exact hbW
      obtain ⟨m, hm4, hm⟩ := bits_and3 (k : Int)
      obtain ⟨c, hc⟩ : ∃ c : UInt8, (k : Int) = (c.toNat : Int) := ⟨UInt8.ofNat k, by rw [show (UInt8.ofNat k).toNat = k by simp; omega]⟩
      have HC := Lib.hid hc
      clear hc
      have hcs : syncs.length ≤ k ∨ (k < syncs.length ∧ syncs.getD k false = false) ∨ (k < syncs.length ∧ syncs.getD k false = true) := by
        rcases Nat.lt_or_ge k syncs.length with h | h
        · right; cases hh : syncs.getD k false
          · exact .inl ⟨h, rfl⟩
          · exact .inr ⟨h, rfl⟩
        · exact .inl h
      rcases hcs with h | ⟨h, hbv⟩ | ⟨h, hbv⟩
      focus
        have hdk : decide ((k : Int) < (syncs.length : Int)) = false := by simp; omega
        clear hbW
        go_wp2_with fail
        refine (fill_any (k : Int) c HC.out _).mono ?_
        rintro e w4 ⟨rfl, hb4⟩
        have HI4 := Lib.hid (HI.out.more hb4)
        clear hb4 HI
        go_wp2_with fail
        refine (db_write HI4.out (by omega) hlt m m rfl hm4 c).mono ?_
      rotate_left
      focus
        obtain ⟨sbk, so, rfl, hsb, hsc⟩ := HS.out (by omega)
        have hcell := (hbW.cell (p := ⟨sbk, so + k, none⟩) hsb).trans (hsc k h)
        rw [hbv] at hcell
        clear hbv hsc hbW
        go_wp2_with fail
        clear hcell
        refine (fill_any (k : Int) c HC.out _).mono ?_
        rintro e w4 ⟨rfl, hb4⟩
        have HI4 := Lib.hid (HI.out.more hb4)
        clear hb4 HI
        go_wp2_with fail
        refine (db_write HI4.out (by omega) hlt m m rfl hm4 c).mono ?_
      rotate_left
      focus
        obtain ⟨sbk, so, rfl, hsb, hsc⟩ := HS.out (by omega)
        have hcell := (hbW.cell (p := ⟨sbk, so + k, none⟩) hsb).trans (hsc k h)
        rw [hbv] at hcell
        clear hbv hsc hbW
        go_wp2_with fail
        refine (db_sync HI.out (by omega)).mono ?_
        clear HI hcell
      all_goals
        rintro e w5 ⟨⟨hx, rfl⟩ | ⟨hx, rfl⟩, hI5⟩
      all_goals
        have HI5 := Lib.hid hI5
        clear hI5
        have g1 : decide ((k : Int) + 1 < 1 + (z : Int)) = decide (¬ 1 + z ≤ k + 1) := by congr 1; apply propext; omega
        have g2 : decide (1 + (z : Int) ≤ (k : Int) + 1) = decide (1 + z ≤ k + 1) := by congr 1; apply propext; omega
        go_wp2_with fail
        refine (db_broken HI5.out).mono ?_
        rintro e w6 ⟨rfl, rfl⟩
        first | rw [decide_eq_true hx] | rw [decide_eq_false (Nat.not_le.2 hx)]
        go_wp2_with fail
        exact ⟨⟨k + 1, by omega, by go_num, HI5.out⟩, by simp [intOf]; omega⟩
    · obtain rfl : k = 24 := by omega
      go_wp2_with fail
      obtain ⟨d, hD, e1, e2, e3, e4⟩ := HI.out
      have e1' : d.left = 0 := by omega
      have e2' : d.broken = true := by rw [e2]; simp; omega
      have hD' := Lib.hid hD
      have E1 := Lib.hid e1'
      have E2 := Lib.hid e2'
      have E3 := Lib.hid e3
      have E4 := Lib.hid e4
      clear hD e1 e2 e3 e4 e1' e2' HI
      refine (read_go hD'.out (Nat.le_refl _) 0 0 rfl (by rw [E3.out]; decide)).mono ?_
      rintro e w7 ⟨⟨_, rfl⟩ | ⟨hx, _⟩, hD7, _⟩
      rotate_left
      · rw [E2.out] at hx; cases hx
      have HD7 := Lib.hid hD7
      clear hD7 hD'
      go_wp2_with fail
      refine (crash_go HD7.out (Nat.le_refl _) (FatesAt.nil _)).mono ?_
      rintro e w8 ⟨rfl, hD8, _⟩
      have HD8 := Lib.hid hD8
      have hs8 : (d.crash []).secs.length = 4 := (crashSecs_length _ _ _ _).trans E3.out
      have HS8 := Lib.hid hs8
      clear hD8 HD7 hs8
      generalize hdc : crashLess [] d.cache.length = xx
      clear hdc
      go_wp2_with fail
      refine (read_go HD8.out (Nat.le_refl _) 0 0 rfl (by rw [HS8.out]; decide)).mono ?_
      rintro e w9 ⟨⟨hx, _⟩ | ⟨_, rfl⟩, hD9, _⟩
      · cases hx
      have HD9 := Lib.hid hD9
      clear hD9 HD8
      generalize strOf _ = ss
      go_wp2_with fail
      refine (broken_go HD9.out).mono ?_
      rintro e w10 ⟨rfl, rfl⟩
      rw [show (d.crash []).broken = false from rfl]
      go_wp2_with fail
      refine (fill_any 1 1 rfl _).mono ?_
      rintro e w11 ⟨rfl, hb11⟩
      have HD11 := Lib.hid (HD9.out.more hb11 (Nat.le_refl _))
      clear hb11 HD9
      go_wp2_with fail
      refine (write_go HD11.out (Nat.le_refl _) 0 0 rfl (fillB 1) (fillB_length _) (by rw [HS8.out]; decide) (by simp [Dk.crash])).mono ?_
      rintro e w12 (⟨hx, _⟩ | ⟨_, rfl, hD12, _⟩)
      · exact absurd (show brokeN 0 false = true from hx) (by decide)
      have HD12 := Lib.hid hD12
      clear hD12 HD11
      go_wp2_with fail
      go_ret
      obtain ⟨_, _, _, hb⟩ := HD12.out
      exact ⟨rfl, hb⟩

namespace DiskBreaks
theorem params : ∀ t ∈ Try.f4.params.toList, Try.prog.readableRec t = true ∧ t < Try.prog.types.size := by
  have h : (Try.f4.params.toList.all fun t => Try.prog.readableRec t && decide (t < Try.prog.types.size)) = true := by kernel_rfl
  intro t ht
  have := List.all_eq_true.1 h t ht
  simpa using this
set_option maxRecDepth 100000 in
theorem lifted (os : Os) (started : os.Started) (H : Type) (enc : TypeId × Value → H) :
    ReturnsInHanded {} Try.checked os 4 .any (Rows.diskBreaksSpec.pre6 enc Try.prog Try.f4 Rows.diskBreaksRow.domain false) (Rows.diskBreaksSpec.post enc Try.prog Try.f4 false true false false) := by
  refine returnsInHanded_of_change (C := Try.checked) Try.own started (by kernel_rfl) Try.func4
    (ChangeSpec.witness6 (enc := enc) (C := Try.checked) false ⟨#[], #[.int .i64 0, .slice none 0 0], []⟩ 8 (by kernel_rfl) (by kernel_rfl) (by kernel_rfl) (by kernel_rfl)) ?_
  intro W base args ds gs before hval0 hW hcnd _
  have hval : ∀ (j : Nat) t v, Try.f4.params[j]? = some t → args[j]? = some v → Value.okWide Try.prog W .any base t v := hval0
  have hW' := hW
  obtain ⟨p, q, hA0, hV, rfl, hfz, hnd⟩ := hW
  have hA : DataW.TrodAll enc Try.prog W 0 (fun _ => true) true Try.f4.params.toList args.toList ds p := hA0
  rw [Try.params4] at hA hval
  obtain ⟨v0, v1, d0, d1, p0, p1, rfl, rfl, rfl, h0, h1⟩ := trodAll_two hA
  obtain ⟨rfl, rfl⟩ := trodVars_none hV
  obtain ⟨n, rfl⟩ := okWide_int Try.underlying3 (hval 0 3 v0 rfl rfl)
  obtain ⟨_, _, _, rfl⟩ := okWide_slice Try.underlying23 (hval 1 23 v1 rfl rfl)
  obtain ⟨syncs, hs⟩ := open_boolsAt Try.underlying23 Try.underlying4 (by kernel_rfl) h1 rfl
  refine (diskBreaks_walk n _ syncs W hs).mono fun e W' ⟨he, hb⟩ => ?_
  subst he
  exact ⟨_, rfl, law_end Try.laidOut params rfl Try.underlying4 rfl hW' rfl rfl rfl hb⟩

theorem holds : Rows.DiskBreaksSaid :=
  OpenClaim.holds_of_wide 4 Try.f4 rfl rfl rfl rfl rfl rfl rfl ⟨rfl, rfl, rfl, rfl, rfl⟩ rfl rfl rfl rfl rfl (by kernel_rfl) Try.func4 (by kernel_rfl)
    (of_decide_eq_true (by kernel_rfl)) (by unfold Func.isWrapper; first | (rw [if_pos (by decide +kernel)]; kernel_rfl) | (rw [if_neg (by decide +kernel)]; exact ⟨rfl, rfl⟩))
    (fun os started H enc _ => lifted os started H enc)
end DiskBreaks
end Go.Proofs.Ytmhmfcphjfgppaa
