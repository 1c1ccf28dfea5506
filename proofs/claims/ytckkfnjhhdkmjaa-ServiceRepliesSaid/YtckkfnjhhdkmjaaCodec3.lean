/- codec: a reader's Num in one contract; what was written is read. -/
import Derived.Test.YtckkfnjhhdkmjaaCodec2
namespace Go.Proofs.Ytckkfnjhhdkmjaa
open Go.RowKit

theorem rnum_any {w : World} {b : Nat} {s : List UInt8} {bad : Bool} (h : RdAt w b s bad) (most : Int) (M : Nat) (hM : most = (M : Int)) :
    Calls Try.prog 10 #[.pointer (some ⟨b, 0, none⟩), .int .u64 most] w (RNum w b s bad M) := by
  cases bad with
  | true => exact rnum_bad h most M (.inl rfl)
  | false =>
    cases s with
    | nil => exact rnum_bad h most M (.inr rfl)
    | cons c r => exact rnum_cons c r h most M hM

/-- What a read number is, and what it leaves: (what is left, whether it is bad). -/
def rdN (st : List UInt8 × Bool) (M : Nat) : Nat := if st.2 then 0 else match readN st.1 M with | some (n, _) => n | none => 0
def rdS (st : List UInt8 × Bool) (M : Nat) : List UInt8 × Bool := if st.2 then st else match readN st.1 M with | some (_, r) => (r, false) | none => (st.1, true)
theorem readN_le {s r : List UInt8} {M n : Nat} (h : readN s M = some (n, r)) : n ≤ M := by
  unfold readN at h
  split at h
  · cases h
  · split at h
    · cases h
    · simp only at h
      split at h
      · cases h
      · injection h with h
        injection h with h1 h2
        omega
theorem rdN_le (st : List UInt8 × Bool) (M : Nat) : rdN st M ≤ M := by
  unfold rdN
  split
  · omega
  · split
    · rename_i h; exact readN_le h
    · omega
theorem rnum_st {w : World} {b : Nat} {s : List UInt8} {bad : Bool} (h : RdAt w b s bad) (most : Int) (M : Nat) (hM : most = (M : Int)) :
    Calls Try.prog 10 #[.pointer (some ⟨b, 0, none⟩), .int .u64 most] w fun e w' => e = .returned (.int .u64 (rdN (s, bad) M : Nat)) ∧ RdAt w' b (rdS (s, bad) M).1 (rdS (s, bad) M).2 ∧ Frm (· = b) w w' := by
  refine (rnum_any h most M hM).mono ?_
  rintro e w' (⟨n, r, rfl, hr, rfl, h1, h2⟩ | ⟨hb, rfl, h1, h2⟩)
  · simp only [rdN, rdS, hr]
    exact ⟨rfl, h1, h2⟩
  · rcases hb with rfl | hr
    · simp only [rdN, rdS]
      exact ⟨rfl, h1, h2⟩
    · cases bad
      · simp only [rdN, rdS, hr]
        exact ⟨rfl, h1, h2⟩
      · simp only [rdN, rdS]
        exact ⟨rfl, h1, h2⟩
theorem rdN_num (n M : Nat) (rest : List UInt8) (h : n < 18446744073709551616) (hM : n ≤ M) (hr : readN (numB n ++ rest) M = some (n, rest)) : rdN (numB n ++ rest, false) M = n ∧ rdS (numB n ++ rest, false) M = (rest, false) := by
  simp only [rdN, rdS, hr]
  exact ⟨rfl, rfl⟩

theorem lt_bitLenAux : ∀ (f x : Nat), x < 2 ^ f → x < 2 ^ Lib.bitLenAux f x
  | 0, x, h => by simpa [Lib.bitLenAux] using h
  | f + 1, x, h => by
    unfold Lib.bitLenAux
    split
    · omega
    · have := lt_bitLenAux f (x / 2) (by rw [Nat.pow_succ] at h; omega)
      rw [Nat.add_comm 1, Nat.pow_succ]
      omega
theorem lt_bitLen (x : Nat) (h : x < 18446744073709551616) : x < 2 ^ Lib.bitLen x := lt_bitLenAux 64 x h
/-- What is left of a number ahead of its lower bytes. -/
theorem more_high (n : Nat) (h : n < 18446744073709551616) : (moreN n < 8 ∧ n / 256 ^ moreN n < 2 ^ (7 - moreN n)) ∨ (moreN n = 8 ∧ n / 256 ^ moreN n = 0) := by
  have h1 := lt_bitLen n h
  by_cases h8 : moreN n < 8
  · left
    refine ⟨h8, ?_⟩
    have hb : Lib.bitLen n ≤ 7 * moreN n + 7 := by unfold moreN at h8 ⊢; omega
    have h2 : n < 2 ^ (7 * moreN n + 7) := Nat.lt_of_lt_of_le h1 (Nat.pow_le_pow_right (by decide) hb)
    rw [Nat.div_lt_iff_lt_mul (Nat.pow_pos (by decide)), show (256 : Nat) = 2 ^ 8 from rfl, ← Nat.pow_mul, ← Nat.pow_add]
    have : 7 - moreN n + 8 * moreN n = 7 * moreN n + 7 := by omega
    rw [this]
    exact h2
  · right
    have h9 : moreN n = 8 := by have := moreN_le n; omega
    refine ⟨h9, ?_⟩
    rw [h9, Nat.div_eq_of_lt (by exact h)]
theorem fold_be : ∀ (k n : Nat), foldN (n / 256 ^ k) (be k n) = n
  | 0, n => by simp [foldN, be]
  | k + 1, n => by
    have ih := fold_be k n
    have e : n / 256 ^ (k + 1) * 256 + (UInt8.ofNat (n / 256 ^ k)).toNat = n / 256 ^ k := by
      rw [UInt8.toNat_ofNat', Nat.pow_succ, ← Nat.div_div_eq_div_mul]
      omega
    simp only [be, foldN, List.foldl_cons] at ih ⊢
    rw [e]
    exact ih
theorem head_all : ∀ k : Fin 8, ∀ q : Fin 128, q.val < 2 ^ (7 - k.val) → (8 - Lib.bitLen (255 - (onesN k.val ||| (q.val % 256))) = k.val ∧ (onesN k.val ||| (q.val % 256)) % 2 ^ (8 - k.val) = q.val) := by decide +kernel
theorem head_ones (n : Nat) (h : n < 18446744073709551616) : leadOnes (UInt8.ofNat (headN n)) = moreN n ∧ headRest (UInt8.ofNat (headN n)) (moreN n) = n / 256 ^ moreN n := by
  have hb : (UInt8.ofNat (headN n)).toNat = headN n := by rw [UInt8.toNat_ofNat', Nat.mod_eq_of_lt (headN_lt n)]
  unfold leadOnes headRest
  rw [hb]
  rcases more_high n h with ⟨h8, hq⟩ | ⟨h8, hq⟩
  · have hq128 : n / 256 ^ moreN n < 128 := Nat.lt_of_lt_of_le hq (by have := Nat.pow_le_pow_right (n := 2) (i := 7 - moreN n) (j := 7) (by decide) (by omega); exact this)
    unfold headN
    rw [if_pos h8]
    exact head_all ⟨moreN n, h8⟩ ⟨n / 256 ^ moreN n, hq128⟩ hq
  · unfold headN
    rw [if_neg (by omega), hq, h8]
    decide
/-- A number is read as it was written. -/
theorem read_num (n M : Nat) (rest : List UInt8) (h : n < 18446744073709551616) (hM : n ≤ M) : readN (numB n ++ rest) M = some (n, rest) := by
  obtain ⟨h1, h2⟩ := head_ones n h
  have hl : (be (moreN n) n).length = moreN n := be_length _ _
  unfold numB
  rw [List.cons_append]
  have ht : (be (moreN n) n ++ rest).take (moreN n) = be (moreN n) n := by rw [List.take_append_of_le_length (by omega), List.take_of_length_le (by omega)]
  have hd : (be (moreN n) n ++ rest).drop (moreN n) = rest := by rw [List.drop_append_of_le_length (by omega), List.drop_of_length_le (by omega), List.nil_append]
  have := readN_long (c := UInt8.ofNat (headN n)) (r := be (moreN n) n ++ rest) (k := moreN n) (M := M) (n := n) h1 (by simp; omega) h2 (by rw [ht]; exact fold_be _ _)
  rw [this, if_neg (by omega), hd]
end Go.Proofs.Ytckkfnjhhdkmjaa
