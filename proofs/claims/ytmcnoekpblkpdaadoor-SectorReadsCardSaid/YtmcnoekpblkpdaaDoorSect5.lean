/- sector: strings.Trim at the byte 0. -/
import Derived.Test.YtmcnoekpblkpdaaDoorSect4
namespace Go.Proofs.YtmcnoekpblkpdaaDoor
open Go.RowKit

def trimLb (l : List UInt8) : List UInt8 := l.dropWhile (· == 0)
def trimRb (l : List UInt8) : List UInt8 := (l.reverse.dropWhile (· == 0)).reverse
theorem trimRb_nil : trimRb [] = [] := rfl
theorem trimRb_zero (l : List UInt8) : trimRb (l ++ [0]) = trimRb l := by simp [trimRb]
theorem trimRb_last (l : List UInt8) (c : UInt8) (h : c ≠ 0) : trimRb (l ++ [c]) = l ++ [c] := by simp [trimRb, h]
theorem trimLb_nil : trimLb [] = [] := rfl
theorem trimLb_zero (l : List UInt8) : trimLb (0 :: l) = trimLb l := by simp [trimLb]
theorem trimLb_first (l : List UInt8) (c : UInt8) (h : c ≠ 0) : trimLb (c :: l) = c :: l := by simp [trimLb, h]
theorem trimRb_len (l : List UInt8) : (trimRb l).length ≤ l.length := by
  unfold trimRb
  have := (List.dropWhile_sublist (l := l.reverse) (· == 0)).length_le
  simpa using this
def Zs (l : List UInt8) : Prop := ∀ c ∈ l, c = 0
theorem trim_iff (l : List UInt8) : trimLb (trimRb l) = [] ↔ Zs l := by
  have hdw : ∀ m : List UInt8, m.dropWhile (· == 0) = [] ↔ ∀ c ∈ m, c = 0 := by
    intro m
    induction m with
    | nil => simp
    | cons c m ih =>
      by_cases hc : c = 0
      · simp [hc, ih]
      · simp [hc]
  unfold trimLb Zs
  rw [hdw]
  unfold trimRb
  constructor
  · intro h c hc
    have e := List.takeWhile_append_dropWhile (p := (· == (0 : UInt8))) (l := l.reverse)
    have hc' : c ∈ l.reverse := by simpa using hc
    rw [← e, List.mem_append] at hc'
    rcases hc' with hc' | hc'
    · have := List.all_eq_true.1 (List.all_takeWhile (p := (· == (0 : UInt8))) (l := l.reverse)) c hc'; simpa using this
    · exact h c (by simpa using hc')
  · intro h c hc
    have hc' : c ∈ l.reverse.dropWhile (· == 0) := by simpa using hc
    have := (List.dropWhile_sublist (l := l.reverse) (· == 0)).subset hc'
    have := h c (by simpa using this)
    exact this

def strLen : Value → Nat
  | .string s => s.size
  | _ => 0
set_option maxHeartbeats 400000 in
set_option maxRecDepth 100000 in
theorem trimR_any (l : List UInt8) (hl : l.length ≤ 4096) (w : World) : Calls Tryd.prog 33 #[.string (strOf l), .int .u8 0] w fun e w' => e = .returned (.string (strOf (trimRb l))) ∧ w = w' := by
  go_enter Tryd.func33, Tryd.ntmps33
  go_wp2_with fail
  go_loopw [0] (fun v wr => ∃ (j : Nat) (ss : ByteArray), j ≤ l.length ∧ v = .string ss ∧ Hid (ss = strOf (l.take j)) ∧ Hid (trimRb (l.take j) = trimRb l) ∧ wr = w) (fun v _ => strLen v)
  case atStart => exact ⟨l.length, _, by omega, rfl, Lib.hid (by rw [List.take_length]), Lib.hid (by rw [List.take_length]), rfl⟩
  case round =>
    obtain ⟨j, ss, hj, rfl, HSS, HT, rfl⟩ := hrel
    cases j with
    | zero =>
      have hsz : ss.size = 0 := by rw [HSS.out]; rfl
      go_wp2_with fail
      go_ret
      exact ⟨by rw [← HT.out, HSS.out]; simp [trimRb_nil], rfl⟩
    | succ k =>
      have hk : k < l.length := by omega
      have hsz : ss.size = k + 1 := by rw [HSS.out, strOf_size, List.length_take]; omega
      have hk1 : (k : Int) + 1 ≤ 4096 := by omega
      have hks : k < ss.size := by omega
      have hgk : ss[k] = l[k] := by
        have := str_at (l.take (k + 1)) ss HSS.out.symm k (by simp; omega) hks
        rw [this]; simp
      have HEX : Hid (ss.extract 0 k = strOf (l.take k)) := Lib.hid (by
        rw [HSS.out, extract_strOf]; simp [List.take_take])
      have HTK := Lib.hid (List.take_succ_eq_append_getElem hk)
      by_cases hz : l[k] = 0
      · have HZ : Hid (trimRb (l.take k) = trimRb l) := Lib.hid (by rw [← HT.out, HTK.out, hz, trimRb_zero])
        rw [hz] at hgk
        clear hz
        go_wp2_with fail
        refine ⟨⟨k, _, by omega, rfl, HEX, HZ, trivial⟩, ?_⟩
        simp [strLen, HEX.out, strOf_size, hsz]; omega
      · have e1 : ((l[k].toNat : Int) == 0) = false := by
          rw [beq_eq_false_iff_ne]
          intro h
          apply hz
          apply UInt8.toNat.inj
          simpa using h
        have HZ : Hid (trimRb l = l.take (k + 1)) := Lib.hid (by rw [← HT.out, HTK.out, trimRb_last _ _ hz])
        clear hz
        generalize l[k] = c at *
        go_wp2_with fail
        go_ret
        exact ⟨by rw [HZ.out, HSS.out]; rfl, rfl⟩
set_option maxHeartbeats 400000 in
set_option maxRecDepth 100000 in
theorem trimL_any (l : List UInt8) (hl : l.length ≤ 4096) (w : World) : Calls Tryd.prog 32 #[.string (strOf l), .int .u8 0] w fun e w' => e = .returned (.string (strOf (trimLb l))) ∧ w = w' := by
  go_enter Tryd.func32, Tryd.ntmps32
  go_wp2_with fail
  go_loopw [0] (fun v wr => ∃ (m : List UInt8) (ss : ByteArray), m.length ≤ 4096 ∧ v = .string ss ∧ Hid (ss = strOf m) ∧ Hid (trimLb m = trimLb l) ∧ wr = w) (fun v _ => strLen v)
  case atStart => exact ⟨l, _, hl, rfl, Lib.hid rfl, Lib.hid rfl, rfl⟩
  case round =>
    obtain ⟨m, ss, hm, rfl, HSS, HT, rfl⟩ := hrel
    cases m with
    | nil =>
      have hsz : ss.size = 0 := by rw [HSS.out]; rfl
      go_wp2_with fail
      go_ret
      exact ⟨by rw [← HT.out, HSS.out, trimLb_nil]; rfl, rfl⟩
    | cons c m =>
      have hsz : ss.size = m.length + 1 := by rw [HSS.out, strOf_size]; rfl
      have hm1 : (m.length : Int) + 1 ≤ 4096 := by simp at hm; omega
      have hks : 0 < ss.size := by omega
      have hgk : ss[0] = c := by
        have := str_at (c :: m) ss HSS.out.symm 0 (by simp) hks
        rw [this]; simp
      have HEX : Hid (ss.extract 1 (m.length + 1) = strOf m) := Lib.hid (by
        rw [HSS.out, extract_strOf]; simp)
      by_cases hz : c = 0
      · have HZ : Hid (trimLb m = trimLb l) := Lib.hid (by rw [← HT.out, hz, trimLb_zero])
        rw [hz] at hgk
        clear hz
        go_wp2_with fail
        refine ⟨⟨m, _, by omega, rfl, HEX, HZ, trivial⟩, ?_⟩
        simp [strLen, HEX.out, strOf_size, hsz]
      · have e1 : ((c.toNat : Int) == 0) = false := by
          rw [beq_eq_false_iff_ne]
          intro h
          apply hz
          apply UInt8.toNat.inj
          simpa using h
        have HZ : Hid (trimLb l = c :: m) := Lib.hid (by rw [← HT.out, trimLb_first _ _ hz])
        clear hz
        go_wp2_with fail
        go_ret
        exact ⟨by rw [HZ.out, HSS.out]; rfl, rfl⟩
set_option maxHeartbeats 400000 in
set_option maxRecDepth 100000 in
theorem trim_any (l : List UInt8) (hl : l.length ≤ 4096) (w : World) : Calls Tryd.prog 24 #[.string (strOf l), .string ⟨#[0]⟩] w fun e w' => e = .returned (.string (strOf (trimLb (trimRb l)))) ∧ ∃ m, w' = w.drewN m := by
  have C1 := Lib.hid fun w => trimR_any l hl w
  have C2 := Lib.hid fun w => trimL_any (trimRb l) (Nat.le_trans (trimRb_len l) hl) w
  cases l with
  | nil =>
    change Calls _ _ #[.string ⟨#[]⟩, .string ⟨#[0]⟩] _ _
    go_enter Tryd.func24, Tryd.ntmps24
    go_wp2_with fail
    go_ret
    exact ⟨rfl, 0, rfl⟩
  | cons c l =>
    generalize hss : strOf (c :: l) = ss at *
    have hl1 : ss.toList = c :: l := by rw [← hss, ByteArray.toList_eq]; rfl
    have hne : ¬ ss.toList = [] := by rw [hl1]; simp
    have hne2 : ss.toList.isEmpty = false := by rw [hl1]; rfl
    have HSS := Lib.hid hss
    clear hss hl1
    go_enter Tryd.func24, Tryd.ntmps24
    go_wp2_with fail
    go_ways
    go_quiet (first | (go_at_call 33; exact quiet_eq (C1.out _)) | (go_at_call 32; exact quiet_eq (C2.out _)))
    go_wp2_with fail
    go_ret
    exact ⟨rfl, _, rfl⟩
end Go.Proofs.YtmcnoekpblkpdaaDoor
