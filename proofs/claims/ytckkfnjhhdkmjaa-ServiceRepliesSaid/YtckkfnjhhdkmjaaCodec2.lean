/- codec: the reader. -/
import Derived.Test.YtckkfnjhhdkmjaaCodec1
import Derived.Test.YtckkfnjhhdkmjaaGat
namespace Go.Proofs.Ytckkfnjhhdkmjaa
open Go.RowKit

abbrev tReader : TypeId := 47
/-- A reader lies at b: what is left, whether it is bad. -/
def rdCells (s : List UInt8) (bad : Bool) : Array Value := #[.string (strOf s), .bool bad]
def RdAt (w : World) (b : Nat) (s : List UInt8) (bad : Bool) : Prop := Blk w b tReader (rdCells s bad)
section
variable {w : World} {b : Nat} {s : List UInt8} {bad : Bool}
theorem RdAt.c0 (h : RdAt w b s bad) : w.cell? ⟨b, 0, none⟩ = some (.string (strOf s)) := Blk.cell h 0
theorem RdAt.c1 (h : RdAt w b s bad) : w.cell? ⟨b, 1, none⟩ = some (.bool bad) := Blk.cell h 1
theorem RdAt.s0 (h : RdAt w b s bad) (s' : List UInt8) : RdAt (w.setCell ⟨b, 0, none⟩ (.string (strOf s'))) b s' bad := Blk.set h 0 _
theorem RdAt.s1 (h : RdAt w b s bad) (bad' : Bool) : RdAt (w.setCell ⟨b, 1, none⟩ (.bool bad')) b s bad' := Blk.set h 1 _

set_option maxHeartbeats 400000 in
theorem read_any (s : List UInt8) (w : World) : Calls Try.prog 8 #[.string (strOf s)] w fun e w' => e = .returned (.pointer (some ⟨w.heap.size, 0, none⟩)) ∧ RdAt w' w.heap.size s false ∧ Below w.heap.size w w' := by
  go_enter Try.func8, Try.ntmps8
  go_wp2
  go_ret
  exact ⟨rfl, Blk.new _ _ _, (Below.refl _ _).alloc (Nat.le_refl _) _⟩

set_option maxHeartbeats 400000 in
theorem good_any (h : RdAt w b s bad) : Calls Try.prog 13 #[.pointer (some ⟨b, 0, none⟩)] w fun e w' => e = .returned (.bool (!bad)) ∧ w = w' := by
  have c1 := h.c1
  have H := Lib.hid h
  clear h
  go_enter Try.func13, Try.ntmps13
  go_wp2
  go_ret
  exact ⟨rfl, rfl⟩

set_option maxHeartbeats 400000 in
theorem fail_any (h : RdAt w b s bad) : Calls Try.prog 14 #[.pointer (some ⟨b, 0, none⟩)] w fun e w' => e = .returned (.tuple #[]) ∧ RdAt w' b s true ∧ Frm (· = b) w w' := by
  have c1 := h.c1
  have z1 := Blk.frozen h 1
  have H := Lib.hid h
  clear h
  go_enter Try.func14, Try.ntmps14
  go_wp2
  go_end0
  exact ⟨rfl, H.out.s1 true, (Frm.refl _ _).setCell (p := ⟨b, 1, none⟩) (by exact .inl rfl) _⟩

set_option maxHeartbeats 400000 in
theorem end_any (h : RdAt w b s bad) : Calls Try.prog 11 #[.pointer (some ⟨b, 0, none⟩)] w fun e w' => e = .returned (.bool (!bad && decide (s = []))) ∧ w = w' := by
  have c0 := h.c0
  have hg := good_any h
  have HG := Lib.hid hg
  have H := Lib.hid h
  clear h hg
  go_enter Try.func11, Try.ntmps11
  go_wp2_with fail
  refine (HG.out).mono ?_
  rintro e w' ⟨rfl, rfl⟩
  have he : (strOf s).toList.isEmpty = decide (s = []) := by rw [strOf, ByteArray.toList_mk]; cases s <;> simp
  have HE := Lib.hid he
  clear he
  cases bad
  · go_wp2
    go_ret
    exact ⟨by show Ending.returned (.bool _) = _; rw [HE.out]; rfl, rfl⟩
  · go_wp2
    go_ret
    exact ⟨rfl, rfl⟩

/-- How many of a byte's bits are ones, from the highest on. -/
def leadOnes (c : UInt8) : Nat := 8 - Lib.bitLen (255 - c.toNat)
def headRest (c : UInt8) (k : Nat) : Nat := c.toNat % 2 ^ (8 - k)
/-- The number behind its first byte and so many more. -/
def foldN (a : Nat) (l : List UInt8) : Nat := l.foldl (fun n c => n * 256 + c.toNat) a
/-- What a reader reads as a number, and what is left. -/
def readN (s : List UInt8) (most : Nat) : Option (Nat × List UInt8) :=
  match s with
  | [] => none
  | c :: r =>
    if r.length < leadOnes c then none
    else
      let n := foldN (headRest c (leadOnes c)) (r.take (leadOnes c))
      if moreN n ≠ leadOnes c ∨ most < n then none else some (n, r.drop (leadOnes c))

theorem leadOnes_le (c : UInt8) : leadOnes c ≤ 8 := by unfold leadOnes; omega
theorem foldN_snoc (a : Nat) (l : List UInt8) (c : UInt8) : foldN a (l ++ [c]) = foldN a l * 256 + c.toNat := by simp [foldN]
theorem foldN_lt : ∀ (l : List UInt8) (a e : Nat), a < 2 ^ e → foldN a l < 2 ^ (e + 8 * l.length)
  | [], a, e, ha => by simpa [foldN] using ha
  | c :: l, a, e, ha => by
    have hc := c.toNat_lt
    have h := foldN_lt l (a * 256 + c.toNat) (e + 8) (by rw [Nat.pow_add]; omega)
    have e1 : e + 8 * (c :: l).length = e + 8 + 8 * l.length := by simp; omega
    rw [e1]
    exact h
theorem headRest_lt (c : UInt8) (k : Nat) : headRest c k < 2 ^ (8 - k) := Nat.mod_lt _ (Nat.two_pow_pos _)
theorem andNot_ones (c : UInt8) (k : Nat) (hk : k ≤ 8) : bits .andNot .u8 (c.toNat : Int) (onesN k : Int) = (headRest c k : Int) := by
  have h : k = 0 ∨ k = 1 ∨ k = 2 ∨ k = 3 ∨ k = 4 ∨ k = 5 ∨ k = 6 ∨ k = 7 ∨ k = 8 := by omega
  have hc := c.toNat_lt
  unfold headRest
  generalize c.toNat = x at *
  have all : ∀ k : Fin 9, ∀ x : Fin 256, bits .andNot .u8 (x.val : Int) (onesN k.val : Int) = ((x.val % 2 ^ (8 - k.val) : Nat) : Int) := by decide +kernel
  exact all ⟨k, by omega⟩ ⟨x, hc⟩
theorem not_byte (c : UInt8) : bits .xor .u8 IntKind.u8.max (c.toNat : Int) = ((255 - c.toNat : Nat) : Int) := by
  have hc := c.toNat_lt
  generalize c.toNat = x at *
  have all : ∀ x : Fin 256, bits .xor .u8 IntKind.u8.max (x.val : Int) = ((255 - x.val : Nat) : Int) := by decide +kernel
  exact all ⟨x, hc⟩
theorem bits_or_u64 (a b : Nat) (ha : a < 18446744073709551616) (hb : b < 18446744073709551616) : bits .or .u64 (a : Int) (b : Int) = ((a ||| b : Nat) : Int) := by
  have h : a ||| b < 2 ^ 64 := Nat.or_lt_two_pow (n := 64) ha hb
  show IntKind.u64.wrap ((BitVec.ofInt 64 (a : Int) ||| BitVec.ofInt 64 (b : Int)).toNat : Int) = _
  rw [BitVec.ofInt_natCast, BitVec.ofInt_natCast, BitVec.toNat_or, BitVec.toNat_ofNat, BitVec.toNat_ofNat, Nat.mod_eq_of_lt ha, Nat.mod_eq_of_lt hb, IntKind.wrap_u64]
  omega
theorem or_add (a b : Nat) (hb : b < 256) : a * 256 ||| b = a * 256 + b := by
  have := Nat.shiftLeft_add_eq_or_of_lt (i := 8) (b := b) hb a
  rw [Nat.shiftLeft_eq] at this
  exact this.symm
theorem extract_drop (s : List UInt8) (k : Nat) : (strOf s).extract k s.length = strOf (s.drop k) := by
  unfold strOf
  apply ByteArray.ext
  simp [ByteArray.extract, ByteArray.copySlice]
  rw [List.take_of_length_le (by simp)]

/-- What Num does to a reader. -/
def RNum (w : World) (b : Nat) (s : List UInt8) (bad : Bool) (most : Nat) (e : Ending) (w' : World) : Prop :=
  (∃ n r, bad = false ∧ readN s most = some (n, r) ∧ e = .returned (.int .u64 (n : Nat)) ∧ RdAt w' b r false ∧ Frm (· = b) w w') ∨
  ((bad = true ∨ readN s most = none) ∧ e = .returned (.int .u64 0) ∧ RdAt w' b s true ∧ Frm (· = b) w w')

set_option maxHeartbeats 400000 in
set_option maxRecDepth 100000 in
theorem rnum_bad (h : RdAt w b s bad) (most : Int) (M : Nat) (hb : bad = true ∨ s = []) : Calls Try.prog 10 #[.pointer (some ⟨b, 0, none⟩), .int .u64 most] w (RNum w b s bad M) := by
  have c0 := h.c0
  have hg := good_any h
  have hf := fail_any h
  have HG := Lib.hid hg
  have HF := Lib.hid hf
  have HBB := Lib.hid hb
  have H := Lib.hid h
  clear h hg hf hb
  have he : bad = false → (strOf s).toList.isEmpty = true := by
    rintro rfl
    rcases HBB.out with h | rfl
    · cases h
    · rw [strOf, ByteArray.toList_mk]; rfl
  cases bad
  · have he' := he rfl
    clear he
    go_enter Try.func10, Try.ntmps10
    go_wp2_with fail
    refine (HG.out).mono ?_
    rintro e w' ⟨rfl, rfl⟩
    go_wp2_with fail
    refine (HF.out).mono ?_
    rintro e w' ⟨rfl, h1, h2⟩
    have h12 := Lib.hid (And.intro h1 h2)
    clear h1 h2
    go_wp2_with fail
    go_ret
    exact .inr ⟨HBB.out.imp_right (by rintro rfl; rfl), rfl, h12.out⟩
  · clear he
    go_enter Try.func10, Try.ntmps10
    go_wp2_with fail
    refine (HG.out).mono ?_
    rintro e w' ⟨rfl, rfl⟩
    go_wp2_with fail
    refine (HF.out).mono ?_
    rintro e w' ⟨rfl, h1, h2⟩
    have h12 := Lib.hid (And.intro h1 h2)
    clear h1 h2
    go_wp2_with fail
    go_ret
    exact .inr ⟨.inl rfl, rfl, h12.out⟩

theorem lz_any (c : UInt8) (x : Int) (hx : x = ((255 - c.toNat : Nat) : Int)) (w : World) : Calls Try.prog 15 #[.int .u8 x] w fun e w' => e = .returned (.int .i64 (leadOnes c : Nat)) ∧ w = w' := by
  subst hx
  have hc := c.toNat_lt
  refine (bits_LeadingZeros8 _ w (by omega) (by omega)).mono ?_
  rintro e w' ⟨rfl, rfl⟩
  refine ⟨?_, rfl⟩
  have : Lib.bitLen (255 - c.toNat) ≤ 8 := Lib.bitLen_le _ 8 (by omega) (by omega)
  rw [Int.toNat_natCast]
  exact ret_int (by unfold leadOnes; omega)
theorem readN_short {c : UInt8} {r : List UInt8} {M : Nat} (h : r.length < leadOnes c) : readN (c :: r) M = none := by simp [readN, h]
theorem str_get (s : List UInt8) (ss : ByteArray) (h : strOf s = ss) (j : Nat) (hj : j < s.length) (hj' : j < ss.size) : ss[j] = s[j] := by
  subst h; rfl

theorem fold_step {x k j : Nat} (hx : x < 2 ^ (8 - k)) (hk : k ≤ 8) (hj : j < k) (r : List UInt8) (hr : j < r.length) :
    bits .or .u64 (IntKind.u64.wrap ((foldN x (r.take j) : Nat) * 256)) (IntKind.u64.wrap (r[j].toNat : Int)) = ((foldN x (r.take (j + 1)) : Nat) : Int) := by
  have h := foldN_lt (r.take j) x (8 - k) hx
  rw [List.length_take, Nat.min_eq_left (by omega)] at h
  have h56 : foldN x (r.take j) < 2 ^ 56 := Nat.lt_of_lt_of_le h (Nat.pow_le_pow_right (by decide) (by omega))
  have hc := r[j].toNat_lt
  have e1 : IntKind.u64.wrap ((foldN x (r.take j) : Nat) * 256) = ((foldN x (r.take j) * 256 : Nat) : Int) := by rw [IntKind.wrap_u64]; omega
  have e2 : IntKind.u64.wrap (r[j].toNat : Int) = (r[j].toNat : Int) := by rw [IntKind.wrap_u64]; omega
  rw [e1, e2, bits_or_u64 _ _ (by omega) (by omega), or_add _ _ hc, List.take_succ_eq_append_getElem hr, foldN_snoc]
theorem readN_long {c : UInt8} {r : List UInt8} {k M x n : Nat} (hk : leadOnes c = k) (hr : ¬ r.length < k) (hx : headRest c k = x) (hn : foldN x (r.take k) = n) :
    readN (c :: r) M = if moreN n ≠ k ∨ M < n then none else some (n, r.drop k) := by
  simp only [readN, hk, hr, if_false, hx, hn]

set_option maxHeartbeats 400000 in
set_option maxRecDepth 100000 in
theorem rnum_cons (c : UInt8) (r : List UInt8) (h : RdAt w b (c :: r) false) (most : Int) (M : Nat) (hM : most = (M : Int)) : Calls Try.prog 10 #[.pointer (some ⟨b, 0, none⟩), .int .u64 most] w (RNum w b (c :: r) false M) := by
  have c0 := h.c0
  have hg := good_any h
  have hf := fail_any h
  have HG := Lib.hid hg
  have HF := Lib.hid hf
  have H := Lib.hid h
  have HM := Lib.hid hM
  clear h hg hf hM
  have he : (strOf (c :: r)).toList.isEmpty = false := by rw [strOf, ByteArray.toList_mk]; rfl
  obtain ⟨ss, hss⟩ : ∃ ss, strOf (c :: r) = ss := ⟨_, rfl⟩
  rw [hss] at he c0
  have hs0 : ss.size = r.length + 1 := by rw [← hss]; rfl
  have hget := str_get (c :: r) ss hss
  have hlt0 : 0 < ss.size := by omega
  have hget0 : ss[0] = c := hget 0 (by simp) hlt0
  have HS0 := Lib.hid hs0
  have HSS := Lib.hid hss
  have HGET := Lib.hid hget
  have hk8 := leadOnes_le c
  have hon := fun w => ones_any (leadOnes c : Nat) (leadOnes c) rfl hk8 w
  have HON := Lib.hid hon
  clear hs0 hss hget hon
  have HAN := Lib.hid (andNot_ones c (leadOnes c) hk8)
  have HSH := Lib.hid (readN_short (c := c) (r := r) (M := M))
  have HLZ := Lib.hid (lz_any c)
  generalize hk : leadOnes c = k at *
  have HK := Lib.hid hk
  clear hk
  by_cases hsh : r.length < k
  · have hsz : ss.size ≤ k := by have := HS0.out; omega
    go_enter Try.func10, Try.ntmps10
    go_wp2_with fail
    refine (HG.out).mono ?_
    rintro e w' ⟨rfl, rfl⟩
    go_wp2_with fail
    refine (HLZ.out _ (not_byte c) _).mono ?_
    rintro e w' ⟨rfl, rfl⟩
    go_wp2_with fail
    refine (HF.out).mono ?_
    rintro e w' ⟨rfl, h1, h2⟩
    have h12 := Lib.hid (And.intro h1 h2)
    clear h1 h2
    go_wp2_with fail
    go_ret
    exact .inr ⟨.inr (HSH.out hsh), rfl, h12.out⟩
  · have hsz : k < ss.size := by have := HS0.out; omega
    go_enter Try.func10, Try.ntmps10
    go_wp2_with fail
    refine (HG.out).mono ?_
    rintro e w' ⟨rfl, rfl⟩
    go_wp2_with fail
    refine (HLZ.out _ (not_byte c) _).mono ?_
    rintro e w' ⟨rfl, rfl⟩
    go_wp2_with fail
    go_quiet ((go_at_call 16; exact quiet_eq (HON.out _)))
    rw [HAN.out]
    go_wp2_with fail
    have hh := headRest_lt c k
    have hh2 : 2 ^ (8 - k) ≤ 2 ^ 8 := Nat.pow_le_pow_right (by decide) (by omega)
    generalize hx : headRest c k = x at *
    have HX := Lib.hid hx
    have HXL := Lib.hid hh
    have hwx : IntKind.u64.wrap (x : Int) = (x : Int) := by rw [IntKind.wrap_u64]; omega
    rw [hwx]
    clear hx hh hh2 hwx
    go_loopw [6, 46] (fun n i wr => ∃ j m : Nat, j ≤ k ∧ n = .int .u64 (foldN x (r.take j) : Nat) ∧ i = .int .i64 j ∧ wr = w.drewN m) (fun _ i _ => k - (intOf i).toNat)
    case atStart => exact ⟨0, nq, by omega, rfl, rfl, rfl⟩
    case round =>
      obtain ⟨j, m, hj, rfl, rfl, rfl⟩ := hrel
      by_cases hlt : j < k
      · have hlr : j < r.length := by omega
        have hj1 : j + 1 < ss.size := by omega
        have hgj : ss[j + 1] = r[j] := HGET.out (j + 1) (by simpa using hlr) hj1
        have HST := Lib.hid (fold_step HXL.out hk8 hlt r hlr)
        generalize r[j] = cj at *
        go_wp2_with fail
        rw [HST.out]
        go_roundw
        case rel => exact ⟨j + 1, m, by omega, rfl, by go_num, rfl⟩
        case measure => simp [intOf]; omega
      · obtain rfl : j = k := by omega
        have hF : foldN x (r.take j) < 18446744073709551616 := by
          have := foldN_lt (r.take j) x (8 - j) HXL.out
          rw [List.length_take, Nat.min_eq_left (by omega)] at this
          exact Nat.lt_of_lt_of_le this (by have := Nat.pow_le_pow_right (n := 2) (i := 8 - j + 8 * j) (j := 64) (by decide) (by omega); exact this)
        have HMO := Lib.hid (fun w => more_any _ (foldN x (r.take j)) rfl hF w)
        clear hF
        obtain ⟨n, hn⟩ : ∃ n, foldN x (r.take j) = n := ⟨_, rfl⟩
        rw [hn] at HMO ⊢
        have HRD := Lib.hid (readN_long (M := M) HK.out (by omega) HX.out hn)
        clear hn
        go_wp2_with fail
        refine (HMO.out _).mono ?_
        rintro e w' ⟨rfl, rfl⟩
        have HRM := Lib.hid (show RdAt (w.drewN m) b (c :: r) false from H.out)
        have c0m : (w.drewN m).cell? ⟨b, 0, none⟩ = some (.string ss) := c0
        have z0m := Blk.frozen HRM.out 0
        have HFM := Lib.hid (fail_any HRM.out)
        have HFR : Hid (Frm (· = b) w (w.drewN m)) := Lib.hid ((Frm.refl _ _).drewN m)
        generalize w.drewN m = w1 at *
        have hmb := moreN_le n
        generalize moreN n = mn at *
        have hmM := HM.out
        subst hmM
        by_cases hmk : mn = j
        · by_cases hnM : M < n
          · have e1 : ((mn : Int) != (j : Int)) = false := by simp [hmk]
            have e2 : decide ((M : Int) < (n : Int)) = true := by simp [hnM]
            go_wp2_with fail
            refine (HFM.out).mono ?_
            rintro e w' ⟨rfl, h1, h2⟩
            have h12 := Lib.hid (And.intro h1 h2)
            clear h1 h2
            go_wp2_with fail
            go_ret
            exact .inr ⟨.inr (HRD.out.trans (if_pos (.inr hnM))), rfl, h12.out.1, HFR.out.trans' h12.out.2⟩
          · have e1 : ((mn : Int) != (j : Int)) = false := by simp [hmk]
            have e2 : decide ((M : Int) < (n : Int)) = false := by simp; omega
            go_wp2_with fail
            go_ret
            have es : ss.extract (j + 1) ss.size = strOf (r.drop j) := by
              have := extract_drop (c :: r) (j + 1)
              rw [HSS.out] at this
              rw [HS0.out]
              exact this
            rw [es]
            exact .inl ⟨n, r.drop j, rfl, HRD.out.trans (if_neg (by rintro (h | h); exact h hmk; exact hnM h)), rfl, HRM.out.s0 _, HFR.out.setCell (p := ⟨b, 0, none⟩) (by exact .inl rfl) _⟩
        · have e1 : ((mn : Int) != (j : Int)) = true := by simp; omega
          go_wp2_with fail
          refine (HFM.out).mono ?_
          rintro e w' ⟨rfl, h1, h2⟩
          have h12 := Lib.hid (And.intro h1 h2)
          clear h1 h2
          go_wp2_with fail
          go_ret
          exact .inr ⟨.inr (HRD.out.trans (if_pos (.inl hmk))), rfl, h12.out.1, HFR.out.trans' h12.out.2⟩
end
end Go.Proofs.Ytckkfnjhhdkmjaa
