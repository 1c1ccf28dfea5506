/- DiskOrder: two disks that share no block: each contract of one leaves the other as it was; the plain laws. -/
import Derived.Test.YtmhmfcphjfgppaaDiskLaw4
namespace Go.Proofs.Ytmhmfcphjfgppaa
open Go.RowKit Go.ChangeShapes Go.WideShapes

/-- Two disks, all of both from W's heap on, no block shared. -/
def Dk2 (W w : World) (b1 sb1 mb1 : Nat) (d1 : Dk) (b2 sb2 mb2 : Nat) (d2 : Dk) : Prop :=
  ∃ cv1 cv2, IsDisk w b1 sb1 mb1 cv1 d1 ∧ IsDisk w b2 sb2 mb2 cv2 d2 ∧ (∀ k, dkOwn b1 sb1 mb1 cv1 k → W.heap.size ≤ k) ∧ (∀ k, dkOwn b2 sb2 mb2 cv2 k → W.heap.size ≤ k) ∧ (∀ k, dkOwn b1 sb1 mb1 cv1 k → ¬ dkOwn b2 sb2 mb2 cv2 k) ∧ Below W.heap.size W w

section
variable {W w w' : World} {b1 sb1 mb1 b2 sb2 mb2 : Nat} {d1 d1' d2 : Dk} {cv1 cv2 : Value}
theorem Dk2.swap (h : Dk2 W w b1 sb1 mb1 d1 b2 sb2 mb2 d2) : Dk2 W w b2 sb2 mb2 d2 b1 sb1 mb1 d1 := by
  obtain ⟨cv1, cv2, h1, h2, g1, g2, hd, hb⟩ := h
  exact ⟨cv2, cv1, h2, h1, g2, g1, fun k h2 h1 => hd k h1 h2, hb⟩
theorem Dk2.bel (h : Dk2 W w b1 sb1 mb1 d1 b2 sb2 mb2 d2) : Below W.heap.size W w := by obtain ⟨_, _, _, _, _, _, _, hb⟩ := h; exact hb
theorem Dk2.more (h : Dk2 W w b1 sb1 mb1 d1 b2 sb2 mb2 d2) (hb : Below w.heap.size w w') : Dk2 W w' b1 sb1 mb1 d1 b2 sb2 mb2 d2 := by
  obtain ⟨cv1, cv2, h1, h2, g1, g2, hd, hB⟩ := h
  exact ⟨cv1, cv2, h1.keep fun k hk => hb.block k (dkOwn_lt h1 hk), h2.keep fun k hk => hb.block k (dkOwn_lt h2 hk), g1, g2, hd, hB.trans (hb.mono hB.size)⟩
theorem Dk2.step (h1 : IsDisk w b1 sb1 mb1 cv1 d1) (h2 : IsDisk w b2 sb2 mb2 cv2 d2) (g1 : ∀ k, dkOwn b1 sb1 mb1 cv1 k → W.heap.size ≤ k) (g2 : ∀ k, dkOwn b2 sb2 mb2 cv2 k → W.heap.size ≤ k)
    (hd : ∀ k, dkOwn b1 sb1 mb1 cv1 k → ¬ dkOwn b2 sb2 mb2 cv2 k) (hb : Below W.heap.size W w) (ht : DkTo w w' b1 sb1 mb1 cv1 d1') : Dk2 W w' b1 sb1 mb1 d1' b2 sb2 mb2 d2 := by
  obtain ⟨cv', i1, fr, hn⟩ := ht
  have hall : ∀ k, dkOwn b1 sb1 mb1 cv' k → dkOwn b1 sb1 mb1 cv1 k ∨ w.heap.size ≤ k := by
    rintro k (hk | hk | hk | hk)
    · exact .inl (.inl hk)
    · exact .inl (.inr (.inl hk))
    · exact .inl (.inr (.inr (.inl hk)))
    · rcases hn k hk with h | h
      · exact .inl (.inr (.inr (.inr h)))
      · exact .inr h
  refine ⟨cv', cv2, i1, h2.frm fr (fun k hk hk1 => hd k hk1 hk), fun k hk => ?_, g2, fun k hk hk2 => ?_, hb.trans (fr.below (fun k _ hk => g1 k hk) hb.size)⟩
  · rcases hall k hk with h | h
    · exact g1 k h
    · exact Nat.le_trans hb.size h
  · rcases hall k hk with h | h
    · exact hd k h hk2
    · have := dkOwn_lt h2 hk2; omega
theorem Dk2.write (h : Dk2 W w b1 sb1 mb1 d1 b2 sb2 mb2 d2) (n : Int) (at' : Nat) (hn : n = (at' : Int)) (s : List UInt8) (hs : s.length = 128) (hat : at' < d1.secs.length) (hr : d1.cache.length < 1048576) (hl : d1.left = 0) (hbr : d1.broken = false) :
    Calls Try.prog 11 #[.pointer (some ⟨b1, 0, none⟩), .int .i64 n, .string (strOf s)] w fun e w' => e = .returned (.int .i64 0) ∧ Dk2 W w' b1 sb1 mb1 (d1.write at' s) b2 sb2 mb2 d2 ∧ KeepsT w w' := by
  subst hn
  obtain ⟨cv1, cv2, h1, h2, g1, g2, hd, hb⟩ := h
  have hsz : (strOf s).size = 128 := by simpa [strOf, ByteArray.size] using hs
  refine (write_ok at' (strOf s) h1 hat hsz hr).mono ?_
  rintro e w' (⟨hx, _⟩ | ⟨_, rfl, ht⟩)
  · rw [hl, hbr] at hx; exact absurd hx (by decide)
  · exact ⟨rfl, by simpa [strOf] using Dk2.step h1 h2 g1 g2 hd hb ht, fun g t cs hg a1 a2 a3 => ht.blk h1 hg a1 a2 a3⟩
theorem Dk2.sync (h : Dk2 W w b1 sb1 mb1 d1 b2 sb2 mb2 d2) (hl : d1.left = 0) (hbr : d1.broken = false) :
    Calls Try.prog 13 #[.pointer (some ⟨b1, 0, none⟩)] w fun e w' => e = .returned (.int .i64 0) ∧ Dk2 W w' b1 sb1 mb1 d1.sync b2 sb2 mb2 d2 ∧ KeepsT w w' := by
  obtain ⟨cv1, cv2, h1, h2, g1, g2, hd, hb⟩ := h
  refine (sync_ok h1).mono ?_
  rintro e w' (⟨hx, _⟩ | ⟨_, rfl, ht⟩)
  · rw [hl, hbr] at hx; exact absurd hx (by decide)
  · exact ⟨rfl, Dk2.step h1 h2 g1 g2 hd hb ht, fun g t cs hg a1 a2 a3 => ht.blk h1 hg a1 a2 a3⟩
theorem Dk2.crash (h : Dk2 W w b1 sb1 mb1 d1 b2 sb2 mb2 d2) {fv : Value} {fs : List (Int × Int)} (hf : FatesAt w fv fs) :
    Calls Try.prog 17 #[.pointer (some ⟨b1, 0, none⟩), fv] w fun e w' => e = .returned (.bool (crashLess fs d1.cache.length)) ∧ Dk2 W w' b1 sb1 mb1 (d1.crash fs) b2 sb2 mb2 d2 ∧ KeepsT w w' := by
  obtain ⟨cv1, cv2, h1, h2, g1, g2, hd, hb⟩ := h
  refine (crash_ok h1 hf).mono ?_
  rintro e w' ⟨rfl, ht⟩
  exact ⟨rfl, Dk2.step h1 h2 g1 g2 hd hb ht, fun g t cs hg a1 a2 a3 => ht.blk h1 hg a1 a2 a3⟩
theorem Dk2.read (h : Dk2 W w b1 sb1 mb1 d1 b2 sb2 mb2 d2) (n : Int) (at' : Nat) (hn : n = (at' : Int)) (hat : at' < d1.secs.length) (hbr : d1.broken = false) :
    Calls Try.prog 14 #[.pointer (some ⟨b1, 0, none⟩), .int .i64 n] w fun e w' => e = .returned (.tuple #[.string (strOf (d1.read at')), .int .i64 0]) ∧ Dk2 W w' b1 sb1 mb1 d1 b2 sb2 mb2 d2 ∧ KeepsT w w' := by
  subst hn
  have h0 := h
  obtain ⟨cv1, cv2, h1, h2, g1, g2, hd, hb⟩ := h
  refine (read_ok at' h1 hat hbr).mono ?_
  rintro e w' ⟨rfl, hbl⟩
  exact ⟨rfl, h0.more hbl, .of_below hbl⟩
theorem Dk2.dirty (h : Dk2 W w b1 sb1 mb1 d1 b2 sb2 mb2 d2) :
    Calls Try.prog 25 #[.pointer (some ⟨b1, 0, none⟩)] w fun e w' => ∃ A c, e = .returned (.slice A (dirtyL d1).length c) ∧ Dk2 W w' b1 sb1 mb1 d1 b2 sb2 mb2 d2 ∧ KeepsT w w' := by
  have h0 := h
  obtain ⟨cv1, cv2, h1, h2, g1, g2, hd, hb⟩ := h
  refine (dirty_any h1).mono ?_
  rintro e w' ⟨v, rfl, hr, hbl⟩
  rcases hr.2 with ⟨rfl, hn⟩ | ⟨g, cap, cur, rfl, _⟩
  · exact ⟨none, 0, by rw [hn], h0.more hbl, .of_below hbl⟩
  · exact ⟨_, _, rfl, h0.more hbl, .of_below hbl⟩
/-- A second disk, made behind the first one. -/
theorem Dk2.make (h1 : DkAt W.heap.size W w b1 sb1 mb1 d1) (h2 : DkAt w.heap.size w w' b2 sb2 mb2 d2) : Dk2 W w' b1 sb1 mb1 d1 b2 sb2 mb2 d2 := by
  obtain ⟨cv1, i1, g1, hb1⟩ := h1
  obtain ⟨cv2, i2, g2, hb2⟩ := h2
  refine ⟨cv1, cv2, i1.keep fun k hk => hb2.block k (dkOwn_lt i1 hk), i2, g1, fun k hk => Nat.le_trans hb1.size (g2 k hk), fun k hk hk2 => ?_, hb1.trans (hb2.mono hb1.size)⟩
  have := dkOwn_lt i1 hk
  have := g2 k hk2
  omega
end
/-- A row of its own that no disk has lies on. -/
theorem own_keepsT {w w' : World} {base : Nat} {e : TypeId} {size : Nat} {v : Value} {n : Nat} {xs : List Value} (h : w.ownsRow base e size v n xs) (hk : KeepsT w w') (h1 : e ≠ tDisk) (h2 : e ≠ tSector) (h3 : e ≠ tWrite) : w'.ownsRow base e size v n xs := by
  refine own_keep h fun g hg => ?_
  rcases h.2 with ⟨rfl, _⟩ | ⟨g', cap, cur, rfl, _, hh, _⟩
  · cases hg
  · cases hg
    exact (hk g' e cur hh h1 h2 h3).trans hh.symm

/-! ### the plain laws -/
/-- n writes to sector 1, of the bytes 1 to n. -/
def ordCache (n : Nat) : List (Nat × List UInt8) := (List.range n).map fun i => (1, fillB (UInt8.ofNat (1 + i)))
theorem ordCache_succ (n : Nat) : ordCache (n + 1) = ordCache n ++ [(1, fillB (UInt8.ofNat (1 + n)))] := by simp [ordCache, List.range_succ]
theorem ordCache_length (n : Nat) : (ordCache n).length = n := by simp [ordCache]
theorem ordCache_get (n j : Nat) (h : j < n) : (ordCache n)[j]? = some (1, fillB (UInt8.ofNat (1 + j))) := by simp [ordCache, h]
/-- One of them is kept. -/
def ordFates (n k : Nat) : List (Int × Int) := (List.range n).map fun i => (if i = k then 1 else 0, 0)
theorem ordFates_succ (n k : Nat) : ordFates (n + 1) k = ordFates n k ++ [(if n = k then 1 else 0, 0)] := by simp [ordFates, List.range_succ]
theorem ordFates_length (n k : Nat) : (ordFates n k).length = n := by simp [ordFates]
theorem ord_keep (n k j : Nat) (h : j < n) : crashN (ordFates n k) j = if j = k then 128 else 0 := by
  have : (ordFates n k)[j]? = some (if j = k then 1 else 0, 0) := by simp [ordFates, h]
  unfold crashN
  rw [this]
  simp only [keptN]
  split <;> simp
theorem torn_all {new old : List UInt8} (h1 : new.length = 128) (h2 : old.length = 128) : tornSec 128 new old = new := by
  unfold tornSec
  rw [List.take_of_length_le (by omega), List.drop_of_length_le (by omega), List.append_nil]
theorem torn_none {new old : List UInt8} : tornSec 0 new old = old := by simp [tornSec]
theorem ord_dirty {d : Dk} {n : Nat} (h : d.secs.length = 2) (hc : d.cache = ordCache (n + 1)) : (dirtyL d).length = 1 := by
  unfold dirtyL
  rw [h, hc]
  have h0 : ((ordCache (n + 1)).any fun x => x.1 == 0) = false := by simp [ordCache]
  have h1 : ((ordCache (n + 1)).any fun x => x.1 == 1) = true := by rw [ordCache_succ]; simp
  rw [show List.range 2 = [0, 1] from rfl, List.filter_cons, List.filter_cons, List.filter_nil, h0, h1]
  rfl
theorem ord_sync {d : Dk} {n : Nat} (hok : d.Ok) (h : d.secs.length = 2) (hc : d.cache = ordCache (n + 1)) : d.sync.read 1 = fillB (UInt8.ofNat (1 + n)) := by
  rw [read_sync hok]
  unfold Dk.read
  rw [hc, ordCache_succ, lastOf_snoc]
  simp
theorem ord_crash (secs : List (List UInt8)) (h : secs.length = 2) (hs : (secs.getD 1 []).length = 128) (n k : Nat) : ∀ j, j ≤ n → (crashSecs secs (ordCache n) (ordFates n k) j).getD 1 [] = if k < j then fillB (UInt8.ofNat (1 + k)) else secs.getD 1 []
  | 0, _ => by simp [crashSecs]
  | j + 1, hj => by
    have ih := ord_crash secs h hs n k j (by omega)
    have hl : 1 < (crashSecs secs (ordCache n) (ordFates n k) j).length := by rw [crashSecs_length]; omega
    unfold crashSecs
    rw [ordCache_get n j (by omega)]
    simp only
    rw [List.getD_eq_getElem?_getD, List.getElem?_set_self hl, Option.getD_some, ord_keep n k j (by omega), ih]
    by_cases e : j = k
    · subst e
      rw [if_pos rfl, if_neg (by omega), if_pos (by omega), torn_all (fillB_length _) hs]
    · rw [if_neg e, torn_none]
      by_cases e2 : k < j
      · rw [if_pos e2, if_pos (by omega)]
      · rw [if_neg e2, if_neg (by omega)]
theorem ord_less (n k : Nat) (hk : k < n) : crashLess (ordFates n k) n = decide (1 < n) := by
  unfold crashLess
  by_cases h : 1 < n
  · rw [decide_eq_true h, List.any_eq_true]
    obtain ⟨j, hj, hjk⟩ : ∃ j, j < n ∧ j ≠ k := ⟨if k = 0 then 1 else 0, by split <;> omega, by split <;> omega⟩
    exact ⟨j, List.mem_range.2 hj, by rw [ord_keep n k j hj, if_neg hjk]; decide⟩
  · obtain rfl : n = 1 := by omega
    obtain rfl : k = 0 := by omega
    decide
end Go.Proofs.Ytmhmfcphjfgppaa
