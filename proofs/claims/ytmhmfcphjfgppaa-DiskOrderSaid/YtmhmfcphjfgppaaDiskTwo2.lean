/- DiskOrder: what holds between the steps, and each step's contract. -/
import Derived.Test.YtmhmfcphjfgppaaDiskTwo
namespace Go.Proofs.Ytmhmfcphjfgppaa
open Go.RowKit Go.ChangeShapes Go.WideShapes

abbrev tFate : TypeId := 56
def fateCells (l : List (Int × Int)) : List Value := l.flatMap fun f => [.int .i64 f.1, .int .i64 f.2]
theorem fateCells_snoc (l : List (Int × Int)) (f : Int × Int) : fateCells (l ++ [f]) = fateCells l ++ [.int .i64 f.1, .int .i64 f.2] := by simp [fateCells]
theorem fateCells_length (l : List (Int × Int)) : (fateCells l).length = l.length * 2 := by
  induction l with
  | nil => rfl
  | cons a l ih => simp only [fateCells, List.flatMap_cons, List.length_append, List.length_cons, List.length_nil] at ih ⊢; rw [ih]; omega
theorem fateCells_get (l : List (Int × Int)) (i : Nat) (h : i < l.length) : (fateCells l)[i * 2]? = some (.int .i64 (l.getD i (0, 0)).1) ∧ (fateCells l)[i * 2 + 1]? = some (.int .i64 (l.getD i (0, 0)).2) := by
  induction l generalizing i with
  | nil => simp at h
  | cons a l ih =>
    cases i with
    | zero => exact ⟨rfl, rfl⟩
    | succ j =>
      have := ih j (by simpa using h)
      rw [show (j + 1) * 2 = j * 2 + 1 + 1 by omega]
      exact this
theorem own_fates {w : World} {v : Value} {l : List (Int × Int)} (h : w.ownsRow 0 tFate 2 v l.length (fateCells l)) : FatesAt w v l := by
  rcases h.2 with ⟨rfl, hn⟩ | ⟨g, cap, cur, rfl, _, hh, hc, hm, hs, ht⟩
  · have : l = [] := List.eq_nil_of_length_eq_zero hn
    subst this
    exact FatesAt.nil w
  · refine ⟨some ⟨g, 0, none⟩, cap, rfl, by unfold maxLen at hm; omega, fun h0 => ⟨g, 0, rfl, (Array.getElem?_eq_some_iff.1 hh).1, fun i hi => ?_⟩⟩
    obtain ⟨g1, g2⟩ := fateCells_get l i hi
    have hb : Blk w g tFate cur := hh
    rw [← ht, List.getElem?_take] at g1 g2
    rw [if_pos (by omega)] at g1 g2
    rw [Nat.zero_add]
    exact ⟨(hb.cell _).trans (by simpa using g1), (hb.cell _).trans (by simpa using g2)⟩
theorem infoFate : (Try.prog.info? tFate).map (fun i => (i.zero, i.size, i.bytes)) = some (some (.agg #[.int .i64 0, .int .i64 0]), 2, 16) := by kernel_rfl

/-- Between the steps of DiskOrder: i1, i2 writes are done on the disks, i3 fates are noted. -/
def DOr (W w : World) (b1 sb1 mb1 b2 sb2 mb2 k : Nat) (fv : Value) (i1 i2 i3 : Nat) : Prop :=
  ∃ d1 d2, Dk2 W w b1 sb1 mb1 d1 b2 sb2 mb2 d2 ∧ (d1.left = 0 ∧ d1.broken = false ∧ d1.secs.length = 2 ∧ d1.cache = ordCache i1) ∧ (d2.left = 0 ∧ d2.broken = false ∧ d2.secs.length = 2 ∧ d2.cache = ordCache i2) ∧
    w.ownsRow 0 tFate 2 fv i3 (fateCells (ordFates i3 k)) ∧ ∀ g, fv.ownBlock = some g → W.heap.size ≤ g
section
variable {W w w' : World} {b1 sb1 mb1 b2 sb2 mb2 k i1 i2 i3 : Nat} {fv : Value}
theorem DOr.bel (h : DOr W w b1 sb1 mb1 b2 sb2 mb2 k fv i1 i2 i3) : Below W.heap.size W w := by obtain ⟨_, _, h, _⟩ := h; exact h.bel
theorem DOr.more (h : DOr W w b1 sb1 mb1 b2 sb2 mb2 k fv i1 i2 i3) (hb : Below w.heap.size w w') : DOr W w' b1 sb1 mb1 b2 sb2 mb2 k fv i1 i2 i3 := by
  obtain ⟨d1, d2, hD, h1, h2, h3, h4⟩ := h
  exact ⟨d1, d2, hD.more hb, h1, h2, own_keep h3 (fun g hg => hb.block g (own_lt h3 hg)), h4⟩
theorem DOr.write1 (h : DOr W w b1 sb1 mb1 b2 sb2 mb2 k fv i1 i2 i3) (hi : i1 < 12) (c : UInt8) (hc : c = UInt8.ofNat (1 + i1)) :
    Calls Try.prog 11 #[.pointer (some ⟨b1, 0, none⟩), .int .i64 1, .string (strOf (fillB c))] w fun e w' => e = .returned (.int .i64 0) ∧ DOr W w' b1 sb1 mb1 b2 sb2 mb2 k fv (i1 + 1) i2 i3 := by
  obtain ⟨d1, d2, hD, ⟨h1, h2, h3, h4⟩, h5, h6, h7⟩ := h
  refine (hD.write 1 1 rfl (fillB c) (fillB_length _) (by rw [h3]; decide) (by rw [h4, ordCache_length]; omega) h1 h2).mono ?_
  rintro e w' ⟨rfl, hD', hk⟩
  exact ⟨rfl, _, d2, hD', ⟨by simp only [Dk.write, Dk.works, leftN, h1]; rfl, by simp only [Dk.write, Dk.works, brokeN, h1, h2]; rfl, h3, by simp only [Dk.write]; rw [h4, ordCache_succ, hc]⟩, h5, own_keepsT h6 hk (by decide) (by decide) (by decide), h7⟩
theorem DOr.write2 (h : DOr W w b1 sb1 mb1 b2 sb2 mb2 k fv i1 i2 i3) (hi : i2 < 12) (c : UInt8) (hc : c = UInt8.ofNat (1 + i2)) :
    Calls Try.prog 11 #[.pointer (some ⟨b2, 0, none⟩), .int .i64 1, .string (strOf (fillB c))] w fun e w' => e = .returned (.int .i64 0) ∧ DOr W w' b1 sb1 mb1 b2 sb2 mb2 k fv i1 (i2 + 1) i3 := by
  obtain ⟨d1, d2, hD, h5, ⟨h1, h2, h3, h4⟩, h6, h7⟩ := h
  refine (hD.swap.write 1 1 rfl (fillB c) (fillB_length _) (by rw [h3]; decide) (by rw [h4, ordCache_length]; omega) h1 h2).mono ?_
  rintro e w' ⟨rfl, hD', hk⟩
  exact ⟨rfl, d1, _, hD'.swap, h5, ⟨by simp only [Dk.write, Dk.works, leftN, h1]; rfl, by simp only [Dk.write, Dk.works, brokeN, h1, h2]; rfl, h3, by simp only [Dk.write]; rw [h4, ordCache_succ, hc]⟩, own_keepsT h6 hk (by decide) (by decide) (by decide), h7⟩
theorem DOr.dirty (h : DOr W w b1 sb1 mb1 b2 sb2 mb2 k fv (i1 + 1) i2 i3) : Calls Try.prog 25 #[.pointer (some ⟨b1, 0, none⟩)] w fun e w' => ∃ A c, e = .returned (.slice A 1 c) ∧ DOr W w' b1 sb1 mb1 b2 sb2 mb2 k fv (i1 + 1) i2 i3 := by
  obtain ⟨d1, d2, hD, h1, h5, h6, h7⟩ := h
  refine hD.dirty.mono ?_
  rintro e w' ⟨A, c, rfl, hD', hk⟩
  exact ⟨A, c, by rw [ord_dirty h1.2.2.1 h1.2.2.2], d1, d2, hD', h1, h5, own_keepsT h6 hk (by decide) (by decide) (by decide), h7⟩
/-- A fate more. -/
theorem DOr.grown (h : DOr W w b1 sb1 mb1 b2 sb2 mb2 k fv i1 i2 i3) {g cap : Nat} (hr : w'.ownsRow 0 tFate 2 (.slice (some ⟨g, 0, none⟩) (i3 + 1) cap) (i3 + 1) (fateCells (ordFates (i3 + 1) k))) (hg : w.grownBy w' fv.ownBlock) (ha : fv.ownBlock = some g ∨ g = w.heap.size) :
    DOr W w' b1 sb1 mb1 b2 sb2 mb2 k (.slice (some ⟨g, 0, none⟩) (i3 + 1) cap) i1 i2 (i3 + 1) := by
  obtain ⟨d1, d2, ⟨cv1, cv2, j1, j2, g1, g2, hd, hb⟩, h1, h5, h6, h7⟩ := h
  have no : ∀ {b sb mb : Nat} {cv : Value} {d : Dk}, IsDisk w b sb mb cv d → ∀ q, dkOwn b sb mb cv q → fv.ownBlock ≠ some q := by
    intro b sb mb cv d hI q hq
    rcases hq with rfl | rfl | rfl | hq
    · exact own_ne h6 hI.str (by decide)
    · exact own_ne h6 hI.secs (by decide)
    · exact fun e => own_ne_map h6 hI.dirty e
    · rcases hI.cache.2 with ⟨rfl, _⟩ | ⟨g', cap', cur, rfl, _, hh, _⟩
      · cases hq
      · cases hq
        exact own_ne (t := tWrite) (cs := cur) h6 hh (by decide)
  have kp : ∀ {b sb mb : Nat} {cv : Value} {d : Dk}, IsDisk w b sb mb cv d → IsDisk w' b sb mb cv d := fun hI => hI.keep fun q hq => hg.block q (dkOwn_lt hI hq) (fun e => no hI q hq e.symm)
  have hfr := Frm.grown (Frm.refl (fun q => fv.ownBlock = some q) w) hg (fun q hq => .inl hq)
  refine ⟨d1, d2, ⟨cv1, cv2, kp j1, kp j2, g1, g2, hd, hb.trans (hfr.below (fun q _ hq => h7 q hq) hb.size)⟩, h1, h5, hr, fun q hq => ?_⟩
  have : g = q := by simpa [Value.ownBlock] using hq
  subst this
  rcases ha with ha | rfl
  · exact h7 _ ha
  · exact hb.size
/-- Behind the sync, and behind the crash. -/
def DOs (W w : World) (b1 sb1 mb1 b2 sb2 mb2 k : Nat) (fv : Value) (n : Nat) : Prop :=
  ∃ d1 d2, Dk2 W w b1 sb1 mb1 d1 b2 sb2 mb2 d2 ∧ (d1.broken = false ∧ d1.secs.length = 2 ∧ d1.read 1 = fillB (UInt8.ofNat (1 + n))) ∧ (d2.left = 0 ∧ d2.broken = false ∧ d2.secs.length = 2 ∧ d2.cache = ordCache (n + 1)) ∧ FatesAt w fv (ordFates (n + 1) k)
def DOc (W w : World) (b1 sb1 mb1 b2 sb2 mb2 k n : Nat) : Prop :=
  ∃ d1 d2, Dk2 W w b1 sb1 mb1 d1 b2 sb2 mb2 d2 ∧ (d1.broken = false ∧ d1.secs.length = 2 ∧ d1.read 1 = fillB (UInt8.ofNat (1 + n))) ∧ (d2.broken = false ∧ d2.secs.length = 2 ∧ d2.read 1 = fillB (UInt8.ofNat (1 + k)))
theorem DOr.sync {n : Nat} (h : DOr W w b1 sb1 mb1 b2 sb2 mb2 k fv (n + 1) (n + 1) (n + 1)) : Calls Try.prog 13 #[.pointer (some ⟨b1, 0, none⟩)] w fun e w' => e = .returned (.int .i64 0) ∧ DOs W w' b1 sb1 mb1 b2 sb2 mb2 k fv n := by
  obtain ⟨d1, d2, hD, ⟨h1, h2, h3, h4⟩, h5, h6, h7⟩ := h
  refine (hD.sync h1 h2).mono ?_
  rintro e w' ⟨rfl, hD', hk⟩
  obtain ⟨_, _, hI, _⟩ := hD
  refine ⟨rfl, _, d2, hD', ⟨by simp only [Dk.sync, Dk.works, brokeN, h1, h2]; rfl, by simp only [Dk.sync]; rw [syncSecs_length]; exact h3, ord_sync hI.ok h3 h4⟩, h5, own_fates ?_⟩
  rw [ordFates_length]
  exact own_keepsT h6 hk (by decide) (by decide) (by decide)
theorem DOs.crash {n : Nat} (h : DOs W w b1 sb1 mb1 b2 sb2 mb2 k fv n) (hk : k < n + 1) : Calls Try.prog 17 #[.pointer (some ⟨b2, 0, none⟩), fv] w fun e w' => e = .returned (.bool (decide (1 < n + 1))) ∧ DOc W w' b1 sb1 mb1 b2 sb2 mb2 k n := by
  obtain ⟨d1, d2, hD, h1, ⟨h2, h3, h4, h5⟩, h6⟩ := h
  have hI : d2.Ok := by obtain ⟨_, _, _, hI, _⟩ := hD; exact hI.ok
  have hs : (d2.secs.getD 1 []).length = 128 := by
    rw [List.getD_eq_getElem?_getD, List.getElem?_eq_getElem (by omega)]
    exact hI.whole _ (List.getElem_mem _)
  refine (hD.swap.crash h6).mono ?_
  rintro e w' ⟨rfl, hD', _⟩
  refine ⟨by rw [h5, ordCache_length, ord_less _ _ hk], d1, _, hD'.swap, h1, rfl, (crashSecs_length _ _ _ _).trans h4, ?_⟩
  show (lastOf [] 1).getD ((crashSecs d2.secs d2.cache (ordFates (n + 1) k) d2.cache.length).getD 1 []) = _
  rw [lastOf_nil, Option.getD_none, h5, ordCache_length, ord_crash d2.secs h4 hs (n + 1) k (n + 1) (Nat.le_refl _), if_pos hk]
theorem DOc.bel {n : Nat} (h : DOc W w b1 sb1 mb1 b2 sb2 mb2 k n) : Below W.heap.size W w := by obtain ⟨_, _, h, _⟩ := h; exact h.bel
theorem DOc.more {n : Nat} (h : DOc W w b1 sb1 mb1 b2 sb2 mb2 k n) (hb : Below w.heap.size w w') : DOc W w' b1 sb1 mb1 b2 sb2 mb2 k n := by
  obtain ⟨d1, d2, hD, h⟩ := h
  exact ⟨d1, d2, hD.more hb, h⟩
theorem DOc.read1 {n : Nat} (h : DOc W w b1 sb1 mb1 b2 sb2 mb2 k n) : Calls Try.prog 14 #[.pointer (some ⟨b1, 0, none⟩), .int .i64 1] w fun e w' => e = .returned (.tuple #[.string (strOf (fillB (UInt8.ofNat (1 + n)))), .int .i64 0]) ∧ DOc W w' b1 sb1 mb1 b2 sb2 mb2 k n := by
  obtain ⟨d1, d2, hD, ⟨h1, h2, h3⟩, h⟩ := h
  refine (hD.read 1 1 rfl (by rw [h2]; decide) h1).mono ?_
  rintro e w' ⟨rfl, hD', _⟩
  exact ⟨by rw [h3], d1, d2, hD', ⟨h1, h2, h3⟩, h⟩
theorem DOc.read2 {n : Nat} (h : DOc W w b1 sb1 mb1 b2 sb2 mb2 k n) : Calls Try.prog 14 #[.pointer (some ⟨b2, 0, none⟩), .int .i64 1] w fun e w' => e = .returned (.tuple #[.string (strOf (fillB (UInt8.ofNat (1 + k)))), .int .i64 0]) ∧ DOc W w' b1 sb1 mb1 b2 sb2 mb2 k n := by
  obtain ⟨d1, d2, hD, h, h1, h2, h3⟩ := h
  refine (hD.swap.read 1 1 rfl (by rw [h2]; decide) h1).mono ?_
  rintro e w' ⟨rfl, hD', _⟩
  exact ⟨by rw [h3], d1, d2, hD'.swap, h, h1, h2, h3⟩
end
end Go.Proofs.Ytmhmfcphjfgppaa
