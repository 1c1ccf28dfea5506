/- sector: the plain laws of sectors as lists of bytes. No walk stands here. -/
import Derived.Test.YtmcnoekpblkpdaaDoorSect3
namespace Go.Proofs.YtmcnoekpblkpdaaDoor
open Go.RowKit

/-- A sector's end: its tag. -/
def endB (t : Nat × Nat) : List UInt8 := be 8 t.1 ++ be 8 t.2
def zeros (k : Nat) : List UInt8 := List.replicate k 0
/-- A piece's sector. -/
def secMake (p : List UInt8) (t : Nat × Nat) : List UInt8 := [UInt8.ofNat p.length] ++ p ++ zeros (107 - p.length) ++ be 4 (sumN (p ++ endB t)) ++ endB t
/-- What a sector says. -/
def secRead (s : List UInt8) : Option (List UInt8 × (Nat × Nat)) :=
  if s.length = 128 ∧ (s.getD 0 0).toNat ≤ 107 ∧ ((s.drop (1 + (s.getD 0 0).toNat)).take (107 - (s.getD 0 0).toNat)).all (fun c => c == 0) = true ∧
    foldN 0 ((s.drop 108).take 4) = sumN ((s.drop 1).take (s.getD 0 0).toNat ++ s.drop 112) then some ((s.drop 1).take (s.getD 0 0).toNat, endT s) else none

theorem endB_length (t : Nat × Nat) : (endB t).length = 16 := by simp [endB, be_length]
theorem sumN_lt (s : List UInt8) : sumN s < 4294967296 := by
  have := sumF_lt s
  unfold sumN; omega
theorem secMake_length (p : List UInt8) (t : Nat × Nat) (h : p.length ≤ 107) : (secMake p t).length = 128 := by
  simp [secMake, be_length, endB_length, zeros]; omega

theorem fold_be0 (k n : Nat) (h : n < 256 ^ k) : foldN 0 (be k n) = n := by
  have := fold_be k n
  rwa [Nat.div_eq_of_lt h] at this
theorem foldN_lt0 (l : List UInt8) : foldN 0 l < 256 ^ l.length := by
  have := foldN_lt l 0 0 (by decide)
  rw [Nat.zero_add, Nat.pow_mul] at this
  exact this
theorem foldN_append (a : Nat) (l m : List UInt8) : foldN a (l ++ m) = foldN (foldN a l) m := by simp [foldN]
theorem foldN_from : ∀ (l : List UInt8) (a : Nat), foldN a l = a * 256 ^ l.length + foldN 0 l
  | [], a => by simp [foldN]
  | c :: l, a => by
    have h1 : foldN a (c :: l) = foldN (a * 256 + c.toNat) l := rfl
    have h2 : foldN 0 (c :: l) = foldN (0 * 256 + c.toNat) l := rfl
    rw [h1, h2, foldN_from l, foldN_from l (0 * 256 + c.toNat), List.length_cons, Nat.pow_succ, Nat.add_mul, Nat.zero_mul, Nat.zero_add, Nat.mul_assoc, Nat.mul_comm 256]
    omega
theorem be_fold : ∀ (l : List UInt8), be l.length (foldN 0 l) = l
  | [] => rfl
  | c :: l => by
    have h2 : foldN 0 (c :: l) = foldN (0 * 256 + c.toNat) l := rfl
    have hlt := foldN_lt0 l
    have e : foldN 0 (c :: l) = c.toNat * 256 ^ l.length + foldN 0 l := by rw [h2, foldN_from, Nat.zero_mul, Nat.zero_add]
    have hp : 0 < 256 ^ l.length := Nat.pow_pos (by decide)
    have be_mod : ∀ (k m a : Nat), be k (a * 256 ^ k + m) = be k m := by
      intro k
      induction k with
      | zero => intros; rfl
      | succ k ih =>
        intro m a
        have e1 : a * 256 ^ (k + 1) = (a * 256) * 256 ^ k := by rw [Nat.pow_succ, Nat.mul_assoc, Nat.mul_comm 256]
        simp only [be]
        have e2 : (a * 256 * 256 ^ k + m) / 256 ^ k = a * 256 + m / 256 ^ k := by
          rw [Nat.mul_comm, Nat.mul_add_div (Nat.pow_pos (by decide))]
        rw [e1, e2, ih m (a * 256)]
        congr 1
        apply UInt8.toNat.inj
        simp only [UInt8.toNat_ofNat']
        omega
    show UInt8.ofNat _ :: be l.length _ = _
    rw [e, be_mod, be_fold l]
    congr 1
    have e3 : (c.toNat * 256 ^ l.length + foldN 0 l) / 256 ^ l.length = c.toNat := by
      rw [Nat.mul_comm, Nat.mul_add_div hp, Nat.div_eq_of_lt hlt, Nat.add_zero]
    rw [e3]
    simp
theorem be_inj {k a b : Nat} (ha : a < 256 ^ k) (hb : b < 256 ^ k) (h : be k a = be k b) : a = b := by
  rw [← fold_be0 k a ha, ← fold_be0 k b hb, h]
theorem endT_lt (s : List UInt8) (h : s.length = 128) : (endT s).1 < 18446744073709551616 ∧ (endT s).2 < 18446744073709551616 := by
  unfold endT
  have h1 := foldN_lt0 ((s.drop 112).take 8)
  have h2 := foldN_lt0 (s.drop 120)
  have l1 : ((s.drop 112).take 8).length = 8 := by simp; omega
  have l2 : (s.drop 120).length = 8 := by simp; omega
  rw [l1] at h1
  rw [l2] at h2
  exact ⟨h1, h2⟩
theorem endB_endT (s : List UInt8) (h : s.length = 128) : endB (endT s) = s.drop 112 := by
  unfold endB endT
  have l1 : ((s.drop 112).take 8).length = 8 := by simp; omega
  have l2 : (s.drop 120).length = 8 := by simp; omega
  have e1 := be_fold ((s.drop 112).take 8)
  have e2 := be_fold (s.drop 120)
  rw [l1] at e1
  rw [l2] at e2
  simp only
  rw [e1, e2]
  have : s.drop 120 = (s.drop 112).drop 8 := by rw [List.drop_drop]
  rw [this, List.take_append_drop]

section
variable (p : List UInt8) (t : Nat × Nat) (h : p.length ≤ 107)
include h
theorem sm_parts : (secMake p t).getD 0 0 = UInt8.ofNat p.length ∧ ((secMake p t).drop 1).take p.length = p ∧ ((secMake p t).drop (1 + p.length)).take (107 - p.length) = zeros (107 - p.length) ∧
    ((secMake p t).drop 108).take 4 = be 4 (sumN (p ++ endB t)) ∧ (secMake p t).drop 112 = endB t := by
  unfold secMake
  refine ⟨by simp, ?_, ?_, ?_, ?_⟩
  · simp
  · rw [List.append_assoc, List.append_assoc, List.drop_append_of_le_length (by simp; omega)]
    have : ([UInt8.ofNat p.length] ++ p).drop (1 + p.length) = [] := List.drop_eq_nil_of_le (by simp; omega)
    rw [this, List.nil_append, List.take_append_of_le_length (by simp [zeros]), List.take_of_length_le (by simp [zeros])]
  · rw [List.append_assoc, List.drop_append_of_le_length (by simp [zeros]; omega)]
    have : ([UInt8.ofNat p.length] ++ p ++ zeros (107 - p.length)).drop 108 = [] := by simp [zeros]; omega
    rw [this, List.nil_append, List.take_append_of_le_length (by simp [be_length]), List.take_of_length_le (by simp [be_length])]
  · rw [List.drop_append_of_le_length (by simp [zeros, be_length]; omega)]
    have : ([UInt8.ofNat p.length] ++ p ++ zeros (107 - p.length) ++ be 4 (sumN (p ++ endB t))).drop 112 = [] := by simp [zeros, be_length]; omega
    rw [this, List.nil_append]
theorem sm_len : ((secMake p t).getD 0 0).toNat = p.length := by
  rw [(sm_parts p t h).1, UInt8.toNat_ofNat']; omega
theorem sm_end (h1 : t.1 < 18446744073709551616) (h2 : t.2 < 18446744073709551616) : endT (secMake p t) = t := by
  have e := (sm_parts p t h).2.2.2.2
  have e2 : (secMake p t).drop 120 = be 8 t.2 := by
    have : (secMake p t).drop 120 = ((secMake p t).drop 112).drop 8 := by rw [List.drop_drop]
    rw [this, e]
    simp [endB, be_length]
  unfold endT
  rw [e, e2]
  have : (endB t).take 8 = be 8 t.1 := by
    unfold endB
    rw [List.take_append_of_le_length (by simp [be_length]), List.take_of_length_le (by simp [be_length])]
  rw [this, fold_be0 8 _ h1, fold_be0 8 _ h2]
theorem read_make (h1 : t.1 < 18446744073709551616) (h2 : t.2 < 18446744073709551616) : secRead (secMake p t) = some (p, t) := by
  obtain ⟨a1, a2, a3, a4, a5⟩ := sm_parts p t h
  unfold secRead
  rw [sm_len p t h, a2, a3, a4, a5, sm_end p t h h1 h2, if_pos]
  refine ⟨secMake_length p t h, h, ?_, fold_be0 4 _ (sumN_lt _)⟩
  simp [zeros]
end

theorem all_zero {l : List UInt8} (h : ∀ c ∈ l, c = 0) : l = zeros l.length := List.eq_replicate_iff.2 ⟨rfl, h⟩
theorem read_some {s p : List UInt8} {t : Nat × Nat} (h : secRead s = some (p, t)) : p.length ≤ 107 ∧ t.1 < 18446744073709551616 ∧ t.2 < 18446744073709551616 ∧ s = secMake p t := by
  unfold secRead at h
  split at h
  case isFalse => cases h
  case isTrue hc =>
    obtain ⟨hl, hn, hz, hs⟩ := hc
    simp only [Option.some.injEq, Prod.mk.injEq] at h
    obtain ⟨hp, ht⟩ := h
    obtain ⟨e1, e2⟩ := endT_lt s hl
    have hE := endB_endT s hl
    rw [ht] at e1 e2 hE
    generalize hN : (s.getD 0 0).toNat = n at *
    have hpl : p.length = n := by rw [← hp]; simp; omega
    refine ⟨by omega, e1, e2, ?_⟩
    have hz' := all_zero (fun c hc => by simpa using List.all_eq_true.1 hz c hc)
    have lz : ((s.drop (1 + n)).take (107 - n)).length = 107 - n := by simp; omega
    rw [lz] at hz'
    have l4 : ((s.drop 108).take 4).length = 4 := by simp; omega
    have h4 := be_fold ((s.drop 108).take 4)
    rw [l4, hs, hp, ← hE] at h4
    unfold secMake
    rw [hpl, ← hz', h4, hE, ← hp]
    have hc0 : [UInt8.ofNat n] = s.take 1 := by
      match s, hl with
      | c :: s, _ =>
        simp at hN
        simp [← hN]
    rw [hc0]
    have j1 : s.take 1 ++ (s.drop 1).take n = s.take (1 + n) := by rw [List.take_add]
    have j2 : s.take (1 + n) ++ (s.drop (1 + n)).take (107 - n) = s.take 108 := by
      rw [← List.take_add]; congr 1; omega
    have j3 : s.take 108 ++ (s.drop 108).take 4 = s.take 112 := by rw [← List.take_add]
    rw [j1, j2, j3, List.take_append_drop]
theorem read_iff (s p : List UInt8) (t : Nat × Nat) : secRead s = some (p, t) ↔ p.length ≤ 107 ∧ t.1 < 18446744073709551616 ∧ t.2 < 18446744073709551616 ∧ s = secMake p t :=
  ⟨read_some, fun ⟨h, h1, h2, e⟩ => by rw [e]; exact read_make p t h h1 h2⟩
theorem make_inj {p p' : List UInt8} {t t' : Nat × Nat} (h : p.length ≤ 107) (h1 : t.1 < 18446744073709551616) (h2 : t.2 < 18446744073709551616) (h' : p'.length ≤ 107) (h1' : t'.1 < 18446744073709551616) (h2' : t'.2 < 18446744073709551616)
    (e : secMake p t = secMake p' t') : p = p' ∧ t = t' := by
  have a := read_make p t h h1 h2
  rw [e, read_make p' t' h' h1' h2'] at a
  simp only [Option.some.injEq, Prod.mk.injEq] at a
  exact ⟨a.1.symm, a.2.symm⟩

/-- The sum of a text's bytes, in the first half of its sum. -/
theorem sumF_fst (s : List UInt8) : (sumF s).1 = (1 + (s.map UInt8.toNat).sum) % 65521 := by
  have h : ∀ (s : List UInt8) (p : Nat × Nat), p.1 < 65521 → (s.foldl sumStep p).1 = (p.1 + (s.map UInt8.toNat).sum) % 65521 := by
    intro s
    induction s with
    | nil => intro p hp; simp [Nat.mod_eq_of_lt hp]
    | cons c s ih =>
      intro p _
      rw [List.foldl_cons, ih _ (Nat.mod_lt _ (by decide))]
      simp only [sumStep, List.map_cons, List.sum_cons]
      omega
  exact h s (1, 0) (by decide)
theorem sum_set_ne (s : List UInt8) (k : Nat) (hk : k < s.length) (c : UInt8) (hc : c ≠ s[k]) : sumN (s.set k c) ≠ sumN s := by
  intro he
  have b1 := sumF_lt s
  have b2 := sumF_lt (s.set k c)
  unfold sumN at he
  have e1 : (sumF (s.set k c)).1 = (sumF s).1 := by omega
  rw [sumF_fst, sumF_fst] at e1
  have e2 : ((s.set k c).map UInt8.toNat).sum + s[k].toNat = (s.map UInt8.toNat).sum + c.toNat := by
    clear he b1 b2 e1 hc
    induction s generalizing k with
    | nil => simp at hk
    | cons x s ih =>
      cases k with
      | zero => simp; omega
      | succ k =>
        have := ih k (by simpa using hk)
        simp only [List.set_cons_succ, List.map_cons, List.sum_cons, List.getElem_cons_succ] at this ⊢
        omega
  have l1 := c.toNat_lt
  have l2 := s[k].toNat_lt
  apply hc
  apply UInt8.toNat.inj
  omega

theorem set_take (l : List UInt8) (i n : Nat) (c : UInt8) (h : n ≤ i) : (l.set i c).take n = l.take n := by rw [List.take_set, List.set_eq_of_length_le (by simp; omega)]
theorem set_drop (l : List UInt8) (i n : Nat) (c : UInt8) (h : i < n) : (l.set i c).drop n = l.drop n := by rw [List.drop_set_of_lt h]

/-- One byte behind the first one is turned: the sector is none. -/
theorem turn_none (p : List UInt8) (t : Nat × Nat) (h : p.length ≤ 107) (h1 : t.1 < 18446744073709551616) (h2 : t.2 < 18446744073709551616) (k : Nat) (hk0 : 1 ≤ k) (hk : k < 128) (c : UInt8) (hc : (secMake p t)[k]? ≠ some c) :
    secRead ((secMake p t).set k c) = none := by
  cases hr : secRead ((secMake p t).set k c) with
  | none => rfl
  | some x =>
    exfalso
    obtain ⟨p', t'⟩ := x
    obtain ⟨h', h1', h2', e⟩ := read_some hr
    obtain ⟨a1, a2, a3, a4, a5⟩ := sm_parts p t h
    obtain ⟨b1, b2, b3, b4, b5⟩ := sm_parts p' t' h'
    have hL := secMake_length p t h
    rw [← e] at b1 b2 b3 b4 b5
    have hn : p'.length = p.length := by
      have e0 : ((secMake p t).set k c).getD 0 0 = (secMake p t).getD 0 0 := by
        rw [List.getD_eq_getElem?_getD, List.getD_eq_getElem?_getD, List.getElem?_set_ne (by omega)]
      rw [e0, a1] at b1
      have := congrArg UInt8.toNat b1
      rw [UInt8.toNat_ofNat', UInt8.toNat_ofNat'] at this
      omega
    rw [hn] at b2 b3
    by_cases hkp : k < 1 + p.length
    · -- a byte of the piece
      have ht : endB t' = endB t := by rw [← b5, ← a5, set_drop _ _ _ _ (by omega)]
      have hp : p' = p.set (k - 1) c := by rw [← b2, List.drop_set, if_neg (by omega), List.take_set, a2]
      have hs : be 4 (sumN (p' ++ endB t')) = be 4 (sumN (p ++ endB t)) := by rw [← b4, ← a4, set_drop _ _ _ _ (by omega)]
      have hs' := be_inj (sumN_lt _) (sumN_lt _) hs
      rw [ht, hp] at hs'
      have hlt : k - 1 < (p ++ endB t).length := by simp; omega
      refine sum_set_ne (p ++ endB t) (k - 1) hlt c ?_ ?_
      · intro hc'
        apply hc
        have := congrArg (fun l => l[k - 1]?) a2
        (try simp only at this)
        rw [List.getElem?_take, if_pos (by omega), List.getElem?_drop, show 1 + (k - 1) = k by omega] at this
        rw [this, hc', List.getElem_append_left (by omega)]
        exact List.getElem?_eq_getElem _
      · rw [List.set_append_left _ _ (by omega)]
        exact hs'
    · by_cases hkz : k < 108
      · -- a byte that fills
        have b3' := congrArg (fun l => l[k - (1 + p.length)]?) b3
        (try simp only at b3')
        rw [List.getElem?_take, if_pos (by omega), List.getElem?_drop, show 1 + p.length + (k - (1 + p.length)) = k by omega, List.getElem?_set_self (by omega)] at b3'
        have a3' := congrArg (fun l => l[k - (1 + p.length)]?) a3
        (try simp only at a3')
        rw [List.getElem?_take, if_pos (by omega), List.getElem?_drop, show 1 + p.length + (k - (1 + p.length)) = k by omega] at a3'
        exact hc (by rw [a3', b3'])
      · have hp : p' = p := by rw [← b2, List.drop_set, if_neg (by omega), List.take_set, a2, List.set_eq_of_length_le (by omega)]
        by_cases hks : k < 112
        · -- a byte of the sum
          have ht : endB t' = endB t := by rw [← b5, ← a5, set_drop _ _ _ _ (by omega)]
          rw [hp, ht, ← a4] at b4
          have b4' := congrArg (fun l => l[k - 108]?) b4
          (try simp only at b4')
          rw [List.getElem?_take, if_pos (by omega), List.getElem?_drop, show 108 + (k - 108) = k by omega, List.getElem?_set_self (by omega),
            List.getElem?_take, if_pos (by omega), List.getElem?_drop, show 108 + (k - 108) = k by omega] at b4'
          exact hc b4'.symm
        · -- a byte of the end
          have ht : endB t' = (endB t).set (k - 112) c := by rw [← b5, List.drop_set, if_neg (by omega), a5]
          have hs : be 4 (sumN (p' ++ endB t')) = be 4 (sumN (p ++ endB t)) := by
            rw [← b4, ← a4, List.drop_set, if_neg (by omega), List.take_set, List.set_eq_of_length_le (by simp; omega)]
          have hs' := be_inj (sumN_lt _) (sumN_lt _) hs
          rw [hp, ht] at hs'
          have hE := endB_length t
          have hlt : p.length + (k - 112) < (p ++ endB t).length := by simp; omega
          refine sum_set_ne (p ++ endB t) (p.length + (k - 112)) hlt c ?_ ?_
          · intro hc'
            apply hc
            have := congrArg (fun l => l[k - 112]?) a5
            (try simp only at this)
            rw [List.getElem?_drop, show 112 + (k - 112) = k by omega] at this
            rw [this, hc', List.getElem_append_right (by omega)]
            simp only [Nat.add_sub_cancel_left]
            exact List.getElem?_eq_getElem _
          · rw [List.set_append_right _ _ (by omega), Nat.add_sub_cancel_left]
            exact hs'

/-- Torn sectors are known. -/
theorem torn_known (p : List UInt8) (t : Nat × Nat) (h : p.length ≤ 107) (h1 : t.1 < 18446744073709551616) (h2 : t.2 < 18446744073709551616) (o : List UInt8) (ho : o.length = 128) (hne : endT o ≠ t) (k : Nat) (hk : k ≤ 128)
    (hr : ∃ p', secRead ((secMake p t).take k ++ o.drop k) = some (p', t)) : (secMake p t).take k ++ o.drop k = secMake p t := by
  obtain ⟨p', hr⟩ := hr
  have hL := secMake_length p t h
  obtain ⟨h', _, _, e⟩ := read_some hr
  by_cases hk2 : k ≤ 112
  · exfalso
    apply hne
    have e1 := (sm_parts p' t h').2.2.2.2
    rw [← e] at e1
    have e2 : ((secMake p t).take k ++ o.drop k).drop 112 = o.drop 112 := by
      rw [List.drop_append, List.drop_eq_nil_of_le (by simp; omega), List.nil_append, List.drop_drop, List.length_take, Nat.min_eq_left (by omega)]
      congr 1; omega
    rw [e2] at e1
    have e3 : endB (endT o) = endB t := by rw [endB_endT o ho, e1]
    obtain ⟨f1, f2⟩ := endT_lt o ho
    unfold endB at e3
    obtain ⟨g1, g2⟩ := List.append_inj e3 (by simp [be_length])
    exact Prod.ext (be_inj f1 h1 g1) (be_inj f2 h2 g2)
  · have hx : ((secMake p t).take k ++ o.drop k).take 112 = (secMake p t).take 112 := by
      rw [List.take_append_of_le_length (by simp; omega), List.take_take, Nat.min_eq_left (by omega)]
    have eq12 : (secMake p' t).take 112 = (secMake p t).take 112 := by rw [← e]; exact hx
    have hg : ∀ i, i < 112 → (secMake p' t)[i]? = (secMake p t)[i]? := by
      intro i hi
      have := congrArg (fun l => l[i]?) eq12
      simpa [List.getElem?_take, hi] using this
    obtain ⟨a1, a2, _⟩ := sm_parts p t h
    obtain ⟨b1, b2, _⟩ := sm_parts p' t h'
    have hn : p'.length = p.length := by
      have e0 := hg 0 (by omega)
      rw [← sm_len p t h, ← sm_len p' t h', List.getD_eq_getElem?_getD, List.getD_eq_getElem?_getD, e0]
    have hp : p' = p := by
      rw [← b2, ← a2, hn]
      apply List.ext_getElem?
      intro i
      rw [List.getElem?_take, List.getElem?_take]
      split
      · rw [List.getElem?_drop, List.getElem?_drop]; exact hg _ (by omega)
      · rfl
    rw [e, hp]
end Go.Proofs.YtmcnoekpblkpdaaDoor
