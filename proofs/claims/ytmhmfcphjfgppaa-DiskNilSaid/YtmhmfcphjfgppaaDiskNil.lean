/- DiskNil: whatever number comes in: a disk has 1 to 512 sectors; of none nothing comes: the law returns true. No condition beside the row's own. -/
import Derived.Test.YtmhmfcphjfgppaaDiskLaw2
import Derived.Test.YtmhmfcphjfgppaaDisk7
import Derived.Test.YtmhmfcphjfgppaaStep
namespace Go.Proofs.Ytmhmfcphjfgppaa
open Go.ChangeShapes Go.WideShapes Go.ChangeAt Go.RowKit

set_option maxHeartbeats 400000 in
set_option maxRecDepth 100000 in
theorem dirty_nil (w : World) : Calls Try.prog 25 #[.pointer none] w fun e w' => e = .returned (.slice none 0 0) ∧ w = w' := by
  go_enter Try.func25, Try.ntmps25
  go_wp2
  go_ret
  exact ⟨rfl, rfl⟩
theorem awake_go (w : World) : Calls Try.prog 9 #[] w fun e w' => e = .returned (.bool true) ∧ Bel w w' := awake_any w
def NewNil (n : Int) (w : World) (e : Ending) (w' : World) : Prop := ∃ v : Option Addr, e = .returned (.pointer v) ∧ v.isSome = decide (1 ≤ n ∧ n ≤ 512) ∧ Bel w w'
theorem new_nil (n : Int) (w : World) : Calls Try.prog 10 #[.int .i64 n] w (NewNil n w) := by
  by_cases h : 1 ≤ n ∧ n ≤ 512
  · refine (new_go n w h.1 h.2).mono fun e w' hx => ?_
    obtain ⟨rfl, hd, _⟩ := hx
    obtain ⟨_, _, _, hb⟩ := hd
    exact ⟨_, rfl, by simp [h], hb⟩
  · refine (new_bad n w (by omega)).mono fun e w' hx => ?_
    obtain ⟨rfl, rfl⟩ := hx
    exact ⟨none, rfl, by simp [h], Bel.refl _⟩

set_option maxHeartbeats 400000 in
set_option maxRecDepth 100000 in
theorem diskNil_walk (n : Int) (w : World) : Calls Try.prog 7 #[.int .i64 n] w fun e w' => e = .returned (.bool true) ∧ Below w.heap.size w w' := by
  have N1 := Lib.hid (new_nil n w)
  have F1 : Hid (∀ w, Calls Try.prog 12 #[.int .u8 0] w fun e w' => e = .returned (.string (strOf (fillB 0))) ∧ Below w.heap.size w w') := Lib.hid fun w => fill_any 0 0 rfl w
  generalize strOf (fillB 0) = s0 at *
  go_enter Try.func7, Try.ntmps7
  go_wp2_with fail
  (with_reducible refine (N1.out).mono ?_)
  rintro e w1 ⟨v, rfl, hv, hb⟩
  have HB1 := Lib.hid hb
  clear hb N1
  go_wp2_with fail
  refine (break_nil _ _).mono ?_
  rintro e w2 ⟨rfl, rfl⟩
  go_wp2_with fail
  refine (read_nil _ _).mono ?_
  rintro e w2 ⟨rfl, hb⟩
  have HB2 := Lib.hid (HB1.out.step hb)
  clear hb HB1
  go_wp2_with fail
  refine (awake_go _).mono ?_
  rintro e w3 ⟨rfl, hb⟩
  have HB3 := Lib.hid (HB2.out.step hb)
  clear hb HB2
  have hcase : (∃ a, v = some a ∧ 1 ≤ n ∧ n ≤ 512) ∨ (v = none ∧ n < 1) ∨ (v = none ∧ 512 < n) := by
    cases v with
    | none =>
      simp at hv
      by_cases h1 : 1 ≤ n
      · exact .inr (.inr ⟨rfl, by omega⟩)
      · exact .inr (.inl ⟨rfl, by omega⟩)
    | some a =>
      simp at hv
      exact .inl ⟨a, rfl, hv.1, hv.2⟩
  clear hv
  rcases hcase with ⟨a, rfl, h1, h2⟩ | ⟨rfl, h1⟩ | ⟨rfl, h1⟩
  focus
    have hd1 : decide (1 ≤ n) = true := by simpa using h1
    have hd2 : decide (n ≤ 512) = true := by simpa using h2
    go_wp2_with fail
    (with_reducible refine (F1.out _).mono ?_)
    rintro e w4 ⟨rfl, hb⟩
    have HB4 := Lib.hid (HB3.out.step hb)
    clear hb HB3
    go_wp2_with (first
      | (go_at_call 11; refine (write_nil _ _ _).mono ?_; rintro e w5 ⟨rfl, rfl⟩)
      | (go_at_call 13; refine (sync_nil _).mono ?_; rintro e w5 ⟨rfl, rfl⟩)
      | (go_at_call 27; refine (len_nil _).mono ?_; rintro e w5 ⟨rfl, rfl⟩)
      | (go_at_call 25; refine (dirty_nil _).mono ?_; rintro e w5 ⟨rfl, rfl⟩)
      | (go_at_call 16; refine (broken_nil _).mono ?_; rintro e w5 ⟨rfl, rfl⟩)
      | (go_at_call 17; refine (crash_nil _ _).mono ?_; rintro e w5 ⟨rfl, rfl⟩))
    go_ret
    exact ⟨rfl, HB4.out⟩
  focus
    have hd1 : decide (1 ≤ n) = false := by simp; omega
    go_wp2_with fail
    (with_reducible refine (F1.out _).mono ?_)
    rintro e w4 ⟨rfl, hb⟩
    have HB4 := Lib.hid (HB3.out.step hb)
    clear hb HB3
    go_wp2_with (first
      | (go_at_call 11; refine (write_nil _ _ _).mono ?_; rintro e w5 ⟨rfl, rfl⟩)
      | (go_at_call 13; refine (sync_nil _).mono ?_; rintro e w5 ⟨rfl, rfl⟩)
      | (go_at_call 27; refine (len_nil _).mono ?_; rintro e w5 ⟨rfl, rfl⟩)
      | (go_at_call 25; refine (dirty_nil _).mono ?_; rintro e w5 ⟨rfl, rfl⟩)
      | (go_at_call 16; refine (broken_nil _).mono ?_; rintro e w5 ⟨rfl, rfl⟩)
      | (go_at_call 17; refine (crash_nil _ _).mono ?_; rintro e w5 ⟨rfl, rfl⟩))
    go_ret
    exact ⟨rfl, HB4.out⟩
  focus
    have hd1 : decide (1 ≤ n) = true := by simp; omega
    have hd2 : decide (n ≤ 512) = false := by simp; omega
    go_wp2_with fail
    (with_reducible refine (F1.out _).mono ?_)
    rintro e w4 ⟨rfl, hb⟩
    have HB4 := Lib.hid (HB3.out.step hb)
    clear hb HB3
    go_wp2_with (first
      | (go_at_call 11; refine (write_nil _ _ _).mono ?_; rintro e w5 ⟨rfl, rfl⟩)
      | (go_at_call 13; refine (sync_nil _).mono ?_; rintro e w5 ⟨rfl, rfl⟩)
      | (go_at_call 27; refine (len_nil _).mono ?_; rintro e w5 ⟨rfl, rfl⟩)
      | (go_at_call 25; refine (dirty_nil _).mono ?_; rintro e w5 ⟨rfl, rfl⟩)
      | (go_at_call 16; refine (broken_nil _).mono ?_; rintro e w5 ⟨rfl, rfl⟩)
      | (go_at_call 17; refine (crash_nil _ _).mono ?_; rintro e w5 ⟨rfl, rfl⟩))
    go_ret
    exact ⟨rfl, HB4.out⟩

theorem Try.own' : ownKnob Try.prog.godebug = none := by kernel_rfl
theorem Try.laidOut' : laidOutB Try.prog = true := by kernel_rfl

namespace DiskNil
theorem params : ∀ t ∈ Try.f7.params.toList, Try.prog.readableRec t = true ∧ t < Try.prog.types.size := by
  have h : (Try.f7.params.toList.all fun t => Try.prog.readableRec t && decide (t < Try.prog.types.size)) = true := by kernel_rfl
  intro t ht
  have := List.all_eq_true.1 h t ht
  simpa using this
set_option maxRecDepth 100000 in
theorem lifted (os : Os) (started : os.Started) (H : Type) (enc : TypeId × Value → H) :
    ReturnsInHanded {} Try.checked os 7 .any (Rows.diskNilSpec.pre6 enc Try.prog Try.f7 Rows.diskNilRow.domain false) (Rows.diskNilSpec.post enc Try.prog Try.f7 false true false false) := by
  refine returnsInHanded_of_change (C := Try.checked) Try.own' started (by kernel_rfl) Try.func7
    (ChangeSpec.witness6 (enc := enc) (C := Try.checked) false ⟨#[], #[.int .i64 0], []⟩ 8 (by kernel_rfl) (by kernel_rfl) (by kernel_rfl) (by kernel_rfl)) ?_
  intro W base args ds gs before hval0 hW hcnd _
  have hval : ∀ (j : Nat) t v, Try.f7.params[j]? = some t → args[j]? = some v → Value.okWide Try.prog W .any base t v := hval0
  have hW' := hW
  obtain ⟨p, q, hA0, hV, rfl, hfz, hnd⟩ := hW
  have hA : DataW.TrodAll enc Try.prog W 0 (fun _ => true) true Try.f7.params.toList args.toList ds p := hA0
  rw [Try.params7] at hA hval
  obtain ⟨v0, d0, rfl, rfl, h0⟩ := trodAll_one hA
  obtain ⟨rfl, rfl⟩ := trodVars_none hV
  obtain ⟨n0, rfl⟩ := okWide_int Try.underlying3 (hval 0 3 v0 rfl rfl)
  refine (diskNil_walk n0 W).mono fun e W' ⟨he, hb⟩ => ?_
  subst he
  exact ⟨_, rfl, law_end Try.laidOut' params rfl Try.underlying4 rfl hW' rfl rfl rfl hb⟩
theorem holds : Rows.DiskNilSaid :=
  OpenClaim.holds_of_wide 7 Try.f7 rfl rfl rfl rfl rfl rfl rfl ⟨rfl, rfl, rfl, rfl, rfl⟩ rfl rfl rfl rfl rfl (by kernel_rfl) Try.func7 (by kernel_rfl)
    (of_decide_eq_true (by kernel_rfl)) (by unfold Func.isWrapper; first | (rw [if_pos (by decide +kernel)]; kernel_rfl) | (rw [if_neg (by decide +kernel)]; exact ⟨rfl, rfl⟩))
    (fun os started H enc _ => lifted os started H enc)
end DiskNil
end Go.Proofs.Ytmhmfcphjfgppaa
