/- service: nums, Reply, ReadReply. -/
import Derived.Test.YtckkfnjhhdkmjaaCodec3
import Derived.Test.YtckkfnjhhdkmjaaLaw
import Derived.Handy
namespace Go.Proofs.Ytckkfnjhhdkmjaa
open Go.RowKit

def clampN (x : Int) : Nat := if x < 0 ∨ 1048576 < x then 0 else x.toNat
theorem clampN_le (x : Int) : clampN x ≤ 1048576 := by unfold clampN; split <;> omega
def numsB (xs : List Int) : List UInt8 := xs.flatMap fun x => numB (clampN x)
theorem strOf_append (a b : List UInt8) : strOf a ++ strOf b = strOf (a ++ b) := by
  apply ByteArray.ext
  simp [strOf]

theorem numsB_take (xs : List Int) (j : Nat) (h : j < xs.length) : strOf (numsB (xs.take j)) ++ strOf (numB (clampN xs[j])) = strOf (numsB (xs.take (j + 1))) := by
  unfold numsB
  rw [strOf_append, List.take_succ_eq_append_getElem h, List.flatMap_append]
  simp only [List.flatMap_cons, List.flatMap_nil, List.append_nil]
theorem intsAt_blk {w : World} {g : Nat} {t : TypeId} {xs : List Int} {cs : Array Value} (h : Blk w g t cs) (hc : cs = (xs.map (Value.int .i64)).toArray) (c : Nat) (hl : xs.length ≤ 1000) : IntsAt w (.slice (some ⟨g, 0, none⟩) xs.length c) xs := by
  refine ⟨_, c, rfl, by omega, fun _ => ⟨g, 0, rfl, h.lt, fun i hi => ?_⟩⟩
  rw [Nat.zero_add, h.cell, hc]
  simp [hi]
theorem numsB_size : ∀ xs : List Int, (strOf (numsB xs)).size ≤ 9 * xs.length
  | [] => Nat.le_refl _
  | x :: xs => by
    have ih := numsB_size xs
    have h2 := numB_length (clampN x)
    have h3 := moreN_le (clampN x)
    change (numsB xs).length ≤ 9 * xs.length at ih
    show (numsB (x :: xs)).length ≤ 9 * (x :: xs).length
    simp only [numsB, List.flatMap_cons, List.length_append, List.length_cons] at ih ⊢
    omega
set_option maxHeartbeats 400000 in
set_option maxRecDepth 100000 in
theorem nums_any (v : Value) (xs : List Int) (w : World) (h : IntsAt w v xs) (hl : xs.length ≤ 1000) : Calls Try.prog 7 #[v] w fun e w' => e = .returned (.string (strOf (numsB xs))) ∧ Below w.heap.size w w' := by
  obtain ⟨A, c, rfl, hm, hp⟩ := h
  have HP := Lib.hid hp
  clear hp
  go_enter Try.func7, Try.ntmps7
  go_wp2_with fail
  go_loopw [3, 8] (fun s i wr => ∃ j : Nat, j ≤ xs.length ∧ s = .string (strOf (numsB (xs.take j))) ∧ i = .int .i64 j ∧ Below w.heap.size w wr) (fun _ i _ => xs.length - (intOf i).toNat)
  case atStart => exact ⟨0, by omega, rfl, rfl, Below.refl _ _⟩
  case round =>
    obtain ⟨j, hj, rfl, rfl, hB⟩ := hrel
    by_cases hlt : j < xs.length
    · obtain ⟨b, o, rfl, hb, hcell⟩ := HP.out (by omega)
      have hc := (hB.cell (p := ⟨b, o + j, none⟩) hb).trans (hcell j hlt)
      have hg : xs.getD j 0 = xs[j] := by simp [List.getD, hlt]
      rw [hg] at hc
      have HT := Lib.hid (numsB_take xs j hlt)
      have hsz : (strOf (numsB (xs.take j))).size + (strOf (numB (clampN xs[j]))).size ≤ 10000 := by
        have h1 := numsB_size (xs.take j)
        have h2 := numB_length (clampN xs[j])
        have h3 := moreN_le (clampN xs[j])
        have h4 : (strOf (numB (clampN xs[j]))).size = (numB (clampN xs[j])).length := rfl
        rw [List.length_take] at h1
        omega
      generalize xs[j] = x at *
      have HB := Lib.hid hB
      clear hcell hB hg
      have hcl := clampN_le x
      by_cases h0 : x < 0
      · have e0 : decide (x < 0) = true := by simp [h0]
        have HZ : Hid (clampN x = 0) := Lib.hid (by simp [clampN, h0])
        go_wp2_with fail
        refine (num_any 0 (clampN x) (by rw [HZ.out]; rfl) (by omega) _).mono ?_
        rintro e w2 ⟨rfl, hb2⟩
        have HB2 := Lib.hid (HB.out.trans (hb2.mono HB.out.size))
        clear hb2
        have ht := HT.out
        go_wp2_with fail
        exact ⟨⟨j + 1, by omega, rfl, by go_num, HB2.out⟩, by simp [intOf]; omega⟩
      · have e0 : decide (x < 0) = false := by simp; omega
        by_cases h1 : 1048576 < x
        · have e1 : decide (1048576 < x) = true := by simp [h1]
          have HZ : Hid (clampN x = 0) := Lib.hid (by simp [clampN, h1])
          go_wp2_with fail
          refine (num_any 0 (clampN x) (by rw [HZ.out]; rfl) (by omega) _).mono ?_
          rintro e w2 ⟨rfl, hb2⟩
          have HB2 := Lib.hid (HB.out.trans (hb2.mono HB.out.size))
          clear hb2
          have ht := HT.out
          go_wp2_with fail
          exact ⟨⟨j + 1, by omega, rfl, by go_num, HB2.out⟩, by simp [intOf]; omega⟩
        · have e1 : decide (1048576 < x) = false := by simp; omega
          have HZ : Hid (clampN x = x.toNat ) := Lib.hid (by simp [clampN, h1, h0])
          go_wp2_with fail
          refine (num_any x (clampN x) (by have := HZ.out; omega) (by omega) _).mono ?_
          rintro e w2 ⟨rfl, hb2⟩
          have HB2 := Lib.hid (HB.out.trans (hb2.mono HB.out.size))
          clear hb2
          have ht := HT.out
          go_wp2_with fail
          exact ⟨⟨j + 1, by omega, rfl, by go_num, HB2.out⟩, by simp [intOf]; omega⟩
    · obtain rfl : j = xs.length := by omega
      have HB := Lib.hid hB
      clear hB
      go_wp2
      go_ret
      rw [List.take_length]
      exact ⟨rfl, HB.out⟩

set_option maxHeartbeats 400000 in
set_option maxRecDepth 100000 in
theorem reply_any (e : Int) (A : List Value) (p r : Int) (hA : A.length = 18) (hp : A[11]? = some (.int .i64 p)) (hr : A[12]? = some (.int .i64 r)) (w : World) :
    Calls Try.prog 5 #[.int .i64 e, .agg A.toArray] w fun e' w' => e' = .returned (.string (strOf (numsB [e, p, r]))) ∧ Below w.heap.size w w' := by
  have h11 : 11 < A.length := by omega
  have h12 : 12 < A.length := by omega
  have hp' : A[11] = .int .i64 p := by rw [List.getElem?_eq_getElem h11] at hp; exact Option.some.inj hp
  have hr' : A[12] = .int .i64 r := by rw [List.getElem?_eq_getElem h12] at hr; exact Option.some.inj hr
  clear hp hr
  go_enter Try.func5, Try.ntmps5
  go_wp2_with fail
  have hB : Below w.heap.size w ((w.alloc (.cells A.toArray 33)).alloc (.cells #[.int .i64 e, .int .i64 p, .int .i64 r] 3)) := ((Below.refl _ _).alloc (Nat.le_refl _) _).alloc (by simp) _
  have hN := (Blk.new (w.alloc (.cells A.toArray 33)) 3 #[.int .i64 e, .int .i64 p, .int .i64 r])
  rw [World.size_alloc] at hN
  have hI := intsAt_blk hN (xs := [e, p, r]) rfl 3 (by simp)
  refine (nums_any _ [e, p, r] _ hI (by simp)).mono ?_
  rintro e' w2 ⟨rfl, hb2⟩
  have HB2 := Lib.hid (hB.trans (hb2.mono hB.size))
  clear hb2 hB hN hI
  go_wp2_with fail
  go_ret
  exact ⟨rfl, HB2.out⟩

set_option maxHeartbeats 400000 in
/-- ReadReply's inner function: a reader's Num, to 2^20, as an int. -/
theorem cnum_any {w : World} {g b : Nat} {s : List UInt8} {bad : Bool} (hg : Blk w g 40 #[.pointer (some ⟨b, 0, none⟩)]) (h : RdAt w b s bad) :
    Calls Try.prog 9 #[.pointer (some ⟨g, 0, none⟩)] w fun e w' => e = .returned (.int .i64 (rdN (s, bad) 1048576 : Nat)) ∧ RdAt w' b (rdS (s, bad) 1048576).1 (rdS (s, bad) 1048576).2 ∧ Frm (· = b) w w' := by
  have hc := hg.cell 0
  change _ = some (Value.pointer (some ⟨b, 0, none⟩)) at hc
  have HN := Lib.hid (rnum_st h 1048576 1048576 rfl)
  have hle := rdN_le (s, bad) 1048576
  clear hg h
  generalize rdN (s, bad) 1048576 = n at *
  generalize rdS (s, bad) 1048576 = st at *
  go_enter Try.func9, Try.ntmps9
  go_wp2_with fail
  refine (HN.out).mono ?_
  rintro e w1 ⟨rfl, h1, h2⟩
  have H := Lib.hid (And.intro h1 h2)
  clear h1 h2
  go_wp2_with fail
  go_ret
  exact ⟨rfl, H.out⟩

def st1 (s : List UInt8) : List UInt8 × Bool := rdS (s, false) 1048576
def st2 (s : List UInt8) : List UInt8 × Bool := rdS (st1 s) 1048576
def st3 (s : List UInt8) : List UInt8 × Bool := rdS (st2 s) 1048576
/-- What ReadReply tells. -/
def rrV (s : List UInt8) : Value := if !(st3 s).2 && decide ((st3 s).1 = []) then .tuple #[.int .i64 (rdN (s, false) 1048576 : Nat), .int .i64 (rdN (st1 s) 1048576 : Nat), .int .i64 (rdN (st2 s) 1048576 : Nat), .bool true]
  else .tuple #[.int .i64 0, .int .i64 0, .int .i64 0, .bool false]
set_option maxHeartbeats 400000 in
set_option maxRecDepth 100000 in
theorem readReply_any (s : List UInt8) (w : World) :
    Calls Try.prog 6 #[.string (strOf s)] w fun e' w' => e' = .returned (rrV s) ∧ Below w.heap.size w w' := by
  go_enter Try.func6, Try.ntmps6
  go_wp2_with fail
  refine (read_any s _).mono ?_
  rintro e w1 ⟨rfl, h1, hb1⟩
  have H1 := Lib.hid h1
  have HB1 := Lib.hid hb1
  clear h1 hb1
  go_wp2_with fail
  have hG := Blk.new w1 40 #[.pointer (some ⟨w.heap.size, 0, none⟩)]
  have hR := Blk.alloc H1.out (.cells #[.pointer (some ⟨w.heap.size, 0, none⟩)] 40)
  have hB := HB1.out.alloc HB1.out.size (.cells #[.pointer (some ⟨w.heap.size, 0, none⟩)] 40)
  have hlt := Blk.lt H1.out
  have hne : w1.heap.size ≠ w.heap.size := by omega
  generalize w1.alloc _ = w2 at *
  generalize w1.heap.size = g at *
  have hc0 := hG.cell 0
  change _ = some (Value.pointer (some ⟨w.heap.size, 0, none⟩)) at hc0
  refine (cnum_any hG hR).mono ?_
  rintro e w3 ⟨rfl, hR3, hf3⟩
  have hG3 := hG.frm hf3 hne
  have HB3 := Lib.hid (hB.trans (hf3.below (B := w.heap.size) (fun k _ hk => Nat.le_of_eq hk.symm) hB.size))
  have HR3 := Lib.hid hR3
  have HG3 := Lib.hid hG3
  have HC3 := Lib.hid (cnum_any hG3 hR3)
  clear hR3 hG3 hG hR hB hf3 hlt
  change Hid (RdAt w3 w.heap.size (st1 s).1 (st1 s).2) at HR3
  change Hid (Calls _ _ _ _ fun e w' => e = .returned (.int .i64 (rdN (st1 s) 1048576 : Nat)) ∧ RdAt w' _ (st2 s).1 (st2 s).2 ∧ _) at HC3
  have n1 := rdN_le (s, false) 1048576
  have n2 := rdN_le (st1 s) 1048576
  have n3 := rdN_le (st2 s) 1048576
  have HV : Hid (rrV s = if !(st3 s).2 && decide ((st3 s).1 = []) then .tuple #[.int .i64 (rdN (s, false) 1048576 : Nat), .int .i64 (rdN (st1 s) 1048576 : Nat), .int .i64 (rdN (st2 s) 1048576 : Nat), .bool true]
    else .tuple #[.int .i64 0, .int .i64 0, .int .i64 0, .bool false]) := Lib.hid rfl
  generalize rdN (s, false) 1048576 = a1 at *
  generalize rdN (st1 s) 1048576 = a2 at *
  generalize h3 : rdN (st2 s) 1048576 = a3 at *
  have H3 := Lib.hid h3
  clear h3
  go_wp2_with fail
  refine (HC3.out).mono ?_
  rintro e w4 ⟨rfl, hR4, hf4⟩
  have hG4 := HG3.out.frm hf4 hne
  have HB4 := Lib.hid (HB3.out.trans (hf4.below (B := w.heap.size) (fun k _ hk => Nat.le_of_eq hk.symm) HB3.out.size))
  have HC4 := Lib.hid (cnum_any hG4 hR4)
  have HG4 := Lib.hid hG4
  clear hR4 hf4 hG4 HB3 HC3
  change Hid (Calls _ _ _ _ fun e w' => e = .returned (.int .i64 (rdN (st2 s) 1048576 : Nat)) ∧ RdAt w' _ (st3 s).1 (st3 s).2 ∧ _) at HC4
  rw [H3.out] at HC4
  go_wp2_with fail
  refine (HC4.out).mono ?_
  rintro e w5 ⟨rfl, hR5, hf5⟩
  have hG5 := HG4.out.frm hf5 hne
  have hc5 := hG5.cell 0
  change _ = some (Value.pointer (some ⟨w.heap.size, 0, none⟩)) at hc5
  have HB5 := Lib.hid (HB4.out.trans (hf5.below (B := w.heap.size) (fun k _ hk => Nat.le_of_eq hk.symm) HB4.out.size))
  have HE5 := Lib.hid (end_any hR5)
  clear hR5 hf5 hG5 HB4 HC4
  generalize (!(st3 s).2 && decide ((st3 s).1 = [])) = ok at *
  cases ok
  · go_wp2_with fail
    refine (HE5.out).mono ?_
    rintro e w6 ⟨rfl, rfl⟩
    go_wp2_with fail
    go_returns
    exact ⟨by rw [HV.out]; rfl, HB5.out⟩
  · go_wp2_with fail
    refine (HE5.out).mono ?_
    rintro e w6 ⟨rfl, rfl⟩
    go_wp2_with fail
    go_returns
    exact ⟨by rw [HV.out]; rfl, HB5.out⟩
end Go.Proofs.Ytckkfnjhhdkmjaa
