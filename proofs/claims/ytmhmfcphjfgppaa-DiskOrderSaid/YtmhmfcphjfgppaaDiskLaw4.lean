/- DiskStays: what holds between the steps, and each step's contract. -/
import Derived.Test.YtmhmfcphjfgppaaDiskLaw3
namespace Go.Proofs.Ytmhmfcphjfgppaa
open Go.RowKit Go.ChangeShapes Go.WideShapes

abbrev t4b : TypeId := 52
def boolCells (l : List Bool) : List Value := l.map .bool
/-- Between two writes ahead of the sync. -/
def DS1 (W wr : World) (b sb mb lb k : Nat) : Prop :=
  ∃ (last : List UInt8) (d : Dk), last.length = 4 ∧ Blk wr lb t4u8 (byteCells last).toArray ∧ W.heap.size ≤ lb ∧ DkAt W.heap.size W wr b sb mb d ∧ d.left = 0 ∧ d.broken = false ∧ d.secs.length = 4 ∧ d.cache.length ≤ k ∧ (∀ j, j < 4 → d.read j = fillB (last.getD j 0)) ∧ ∀ j, j < 4 → (last.getD j 0).toNat ≤ 12
/-- A byte is noted, its sector not yet written. -/
def DSm (W wr : World) (b sb mb lb k n : Nat) (c : UInt8) : Prop :=
  ∃ (last : List UInt8) (d : Dk), last.length = 4 ∧ Blk wr lb t4u8 (byteCells (last.set n c)).toArray ∧ W.heap.size ≤ lb ∧ DkAt W.heap.size W wr b sb mb d ∧ d.left = 0 ∧ d.broken = false ∧ d.secs.length = 4 ∧ d.cache.length ≤ k ∧ (∀ j, j < 4 → d.read j = fillB (last.getD j 0)) ∧ (∀ j, j < 4 → (last.getD j 0).toNat ≤ 12) ∧ c.toNat ≤ 12
def DSc (W wr : World) (b sb mb lb : Nat) (last : List UInt8) : Prop :=
  last.length = 4 ∧ Blk wr lb t4u8 (byteCells last).toArray ∧ W.heap.size ≤ lb ∧ (∀ j, j < 4 → (last.getD j 0).toNat ≤ 12) ∧ ∃ d : Dk, DkAt W.heap.size W wr b sb mb d ∧ d.left = 0 ∧ d.broken = false ∧ d.secs.length = 4 ∧ d.cache = [] ∧ ∀ j, j < 4 → d.secs.getD j [] = fillB (last.getD j 0)
/-- Between two writes behind the sync. -/
def DS2 (W wr : World) (b sb mb lb ob k : Nat) (last : List UInt8) : Prop :=
  last.length = 4 ∧ Blk wr lb t4u8 (byteCells last).toArray ∧ W.heap.size ≤ lb ∧ (∀ j, j < 4 → (last.getD j 0).toNat ≤ 12) ∧ ∃ (over : List Bool) (d : Dk), over.length = 4 ∧ Blk wr ob t4b (boolCells over).toArray ∧ W.heap.size ≤ ob ∧ DkAt W.heap.size W wr b sb mb d ∧ d.left = 0 ∧ d.broken = false ∧ d.secs.length = 4 ∧ d.cache.length ≤ k ∧ (∀ j, j < 4 → d.secs.getD j [] = fillB (last.getD j 0)) ∧
    ∀ x ∈ d.cache, x.1 < 4 ∧ over.getD x.1 false = true ∧ ∃ e : UInt8, 100 ≤ e.toNat ∧ x.2 = fillB e
def DSn (W wr : World) (b sb mb lb ob k n : Nat) (last : List UInt8) : Prop :=
  last.length = 4 ∧ Blk wr lb t4u8 (byteCells last).toArray ∧ W.heap.size ≤ lb ∧ (∀ j, j < 4 → (last.getD j 0).toNat ≤ 12) ∧ ∃ (over : List Bool) (d : Dk), over.length = 4 ∧ over.getD n false = true ∧ Blk wr ob t4b (boolCells over).toArray ∧ W.heap.size ≤ ob ∧ DkAt W.heap.size W wr b sb mb d ∧ d.left = 0 ∧ d.broken = false ∧ d.secs.length = 4 ∧ d.cache.length ≤ k ∧ (∀ j, j < 4 → d.secs.getD j [] = fillB (last.getD j 0)) ∧
    ∀ x ∈ d.cache, x.1 < 4 ∧ over.getD x.1 false = true ∧ ∃ e : UInt8, 100 ≤ e.toNat ∧ x.2 = fillB e
/-- Behind the crash. -/
def DS3 (W wr : World) (b sb mb lb ob : Nat) (last : List UInt8) (over : List Bool) (d : Dk) : Prop :=
  last.length = 4 ∧ Blk wr lb t4u8 (byteCells last).toArray ∧ (∀ j, j < 4 → (last.getD j 0).toNat ≤ 12) ∧ over.length = 4 ∧ Blk wr ob t4b (boolCells over).toArray ∧ DkAt W.heap.size W wr b sb mb d ∧ d.broken = false ∧ d.secs.length = 4 ∧ d.cache = [] ∧ ∀ j, j < 4 → TornOk (over.getD j false) (last.getD j 0) (d.secs.getD j [])

section
variable {W w w' : World} {b sb mb lb ob k n : Nat} {last : List UInt8} {over : List Bool} {d : Dk} {c : UInt8}
theorem DS1.bel (h : DS1 W w b sb mb lb k) : Below W.heap.size W w := by obtain ⟨_, _, _, _, _, ⟨_, _, _, hb⟩, _⟩ := h; exact hb
theorem DSc.bel (h : DSc W w b sb mb lb last) : Below W.heap.size W w := by obtain ⟨_, _, _, _, _, ⟨_, _, _, hb⟩, _⟩ := h; exact hb
theorem DS2.bel (h : DS2 W w b sb mb lb ob k last) : Below W.heap.size W w := by obtain ⟨_, _, _, _, _, _, _, _, _, ⟨_, _, _, hb⟩, _⟩ := h; exact hb
theorem DS3.bel (h : DS3 W w b sb mb lb ob last over d) : Below W.heap.size W w := by obtain ⟨_, _, _, _, _, ⟨_, _, _, hb⟩, _⟩ := h; exact hb
theorem DS1.le (h : DS1 W w b sb mb lb k) : W.heap.size ≤ lb := by obtain ⟨_, _, _, _, h, _⟩ := h; exact h
theorem DS2.le (h : DS2 W w b sb mb lb ob k last) : W.heap.size ≤ ob := by obtain ⟨_, _, _, _, _, _, _, _, h, _⟩ := h; exact h
theorem DS3.small (h : DS3 W w b sb mb lb ob last over d) : ∀ j, j < 4 → (last.getD j 0).toNat ≤ 12 := by obtain ⟨_, _, h, _⟩ := h; exact h
theorem DS3.torn (h : DS3 W w b sb mb lb ob last over d) : ∀ j, j < 4 → TornOk (over.getD j false) (last.getD j 0) (d.secs.getD j []) := by obtain ⟨_, _, _, _, _, _, _, _, _, h⟩ := h; exact h
theorem DS1.cell (h : DS1 W w b sb mb lb k) (hn : n < 4) : (∃ u, w.cell? ⟨lb, n, none⟩ = some u) ∧ w.frozen? ⟨lb, n, none⟩ = false := by
  obtain ⟨last, d, hl4, hlb, _⟩ := h
  refine ⟨?_, hlb.frozen n⟩
  rw [hlb.cell n]
  exact ⟨_, Array.getElem?_eq_getElem (by simp [byteCells, hl4]; omega)⟩
theorem DS1.store (h : DS1 W w b sb mb lb k) (n : Nat) (x : Int) (hx : x = (c.toNat : Int)) (hc : c.toNat ≤ 12) : DSm W (w.setCell ⟨lb, n, none⟩ (.int .u8 x)) b sb mb lb k n c := by
  obtain ⟨last, d, hl4, hlb, hle, hD, h1, h2, h3, h4, h5, h6⟩ := h
  have hlb3 := hlb.set n (.int .u8 x)
  rw [List.setIfInBounds_toArray, byteCells_set _ _ hx] at hlb3
  exact ⟨last, d, hl4, hlb3, hle, hD.store hlb hle (by decide) (by decide) (by decide) n (.int .u8 x), h1, h2, h3, h4, h5, h6, hc⟩
theorem DSm.more (h : DSm W w b sb mb lb k n c) (hb : Below w.heap.size w w') : DSm W w' b sb mb lb k n c := by
  obtain ⟨last, d, hl4, hlb, hle, hD, r⟩ := h
  exact ⟨last, d, hl4, hlb.below hb hlb.lt, hle, hD.more hb (Nat.le_refl _), r⟩
theorem DSm.write (h : DSm W w b sb mb lb k n c) (hn : n < 4) (hk : k < 12) :
    Calls Try.prog 11 #[.pointer (some ⟨b, 0, none⟩), .int .i64 (n : Int), .string (strOf (fillB c))] w fun e w' => e = .returned (.int .i64 0) ∧ DS1 W w' b sb mb lb (k + 1) := by
  obtain ⟨last, d, hl4, hlb, hle, hD, h1, h2, h3, h4, h5, h6, hc⟩ := h
  refine (write_go hD (Nat.le_refl _) n n rfl (fillB c) (fillB_length _) (by rw [h3]; exact hn) (by omega)).mono ?_
  rintro e w5 (⟨hx, _⟩ | ⟨_, rfl, hD5, hk5⟩)
  · rw [h1, h2] at hx; exact absurd hx (by decide)
  refine ⟨rfl, last.set n c, _, by simp [hl4], hk5 _ _ _ hlb (by decide) (by decide) (by decide), hle, hD5, by simp only [Dk.write, Dk.works, leftN, h1]; rfl, by simp only [Dk.write, Dk.works, brokeN, h1, h2]; rfl, h3, by simp [Dk.write]; omega, ?_, ?_⟩
  · intro j hj
    rw [read_write, h5 j hj]
    by_cases e : n = j
    · subst e; rw [if_pos rfl]; simp [List.getD, hl4, hn]
    · rw [if_neg e]; simp [List.getD, List.getElem?_set, e]
  · intro j hj
    by_cases e : n = j
    · subst e
      rw [List.getD_eq_getElem?_getD, List.getElem?_set_self (by omega), Option.getD_some]; exact hc
    · rw [List.getD_eq_getElem?_getD, List.getElem?_set_ne e, ← List.getD_eq_getElem?_getD]; exact h6 j hj
theorem DS1.sync (h : DS1 W w b sb mb lb k) : Calls Try.prog 13 #[.pointer (some ⟨b, 0, none⟩)] w fun e w' => e = .returned (.int .i64 0) ∧ ∃ last, DSc W w' b sb mb lb last := by
  obtain ⟨last, d, hl4, hlb, hle, hD, h1, h2, h3, h4, h5, h6⟩ := h
  refine (sync_go hD (Nat.le_refl _)).mono ?_
  rintro e w6 (⟨hx, _⟩ | ⟨_, rfl, hD6, hk6⟩)
  · rw [h1, h2] at hx; exact absurd hx (by decide)
  refine ⟨rfl, last, hl4, hk6 _ _ _ hlb (by decide) (by decide) (by decide), hle, h6, _, hD6, ?_, ?_, ?_, rfl, ?_⟩
  · simp only [Dk.sync, Dk.works, leftN, h1]; rfl
  · simp only [Dk.sync, Dk.works, brokeN, h1, h2]; rfl
  · simp only [Dk.sync]; rw [syncSecs_length]; exact h3
  · intro j hj
    obtain ⟨_, hd, _, _⟩ := hD
    have := read_sync hd.ok j
    rw [h5 j hj] at this
    exact this
theorem DSc.dirty (h : DSc W w b sb mb lb last) : Calls Try.prog 25 #[.pointer (some ⟨b, 0, none⟩)] w fun e w' => ∃ A c, e = .returned (.slice A 0 c) ∧ DSc W w' b sb mb lb last := by
  obtain ⟨hl4, hlb, hle, h6, d, hD, h1, h2, h3, h4, h5⟩ := h
  refine (dirty_none hD (Nat.le_refl _) h4).mono ?_
  rintro e w' ⟨⟨A, c, rfl⟩, hD', hk⟩
  exact ⟨A, c, rfl, hl4, hk _ _ _ hlb (by decide) (by decide) (by decide), hle, h6, d, hD', h1, h2, h3, h4, h5⟩
theorem DSc.start (h : DSc W w b sb mb lb last) : DS2 W (w.alloc (.cells (boolCells [false, false, false, false]).toArray t4b)) b sb mb lb w.heap.size 0 last := by
  have hs := h.bel.size
  obtain ⟨hl4, hlb, hle, h6, d, hD, h1, h2, h3, h4, h5⟩ := h
  exact ⟨hl4, hlb.alloc _, hle, h6, [false, false, false, false], d, rfl, Blk.new w t4b _, hs, hD.alloc (Nat.le_refl _) _, h1, h2, h3, by rw [h4]; exact Nat.le_refl _, h5, by rw [h4]; simp⟩
theorem boolCells_set (l : List Bool) (n : Nat) (v : Bool) : (boolCells l).set n (.bool v) = boolCells (l.set n v) := by simp [boolCells, List.map_set]
theorem DS2.cell (h : DS2 W w b sb mb lb ob k last) (hn : n < 4) : (∃ u, w.cell? ⟨ob, n, none⟩ = some u) ∧ w.frozen? ⟨ob, n, none⟩ = false := by
  obtain ⟨_, _, _, _, over, d, ho4, hob, _⟩ := h
  refine ⟨?_, hob.frozen n⟩
  rw [hob.cell n]
  exact ⟨_, Array.getElem?_eq_getElem (by simp [boolCells, ho4]; omega)⟩
theorem DS2.store (h : DS2 W w b sb mb lb ob k last) (hn : n < 4) : DSn W (w.setCell ⟨ob, n, none⟩ (.bool true)) b sb mb lb ob k n last := by
  obtain ⟨hl4, hlb, hle, h6, over, d, ho4, hob, hoe, hD, h1, h2, h3, h4, h5, h7⟩ := h
  have hob3 := hob.set n (.bool true)
  rw [List.setIfInBounds_toArray, boolCells_set] at hob3
  refine ⟨hl4, ?_, hle, h6, over.set n true, d, by simp [ho4], ?_, hob3, hoe, hD.store hob hoe (by decide) (by decide) (by decide) n (.bool true), h1, h2, h3, h4, h5, fun x hx => ?_⟩
  · exact hlb.far (p := ⟨ob, n, none⟩) (Blk.ne hlb hob (by decide)) _
  · rw [List.getD_eq_getElem?_getD, List.getElem?_set_self (by omega)]; rfl
  · obtain ⟨g1, g2, g3⟩ := h7 x hx
    refine ⟨g1, ?_, g3⟩
    by_cases e : n = x.1
    · rw [e, List.getD_eq_getElem?_getD, List.getElem?_set_self (by omega)]; rfl
    · rw [List.getD_eq_getElem?_getD, List.getElem?_set_ne e, ← List.getD_eq_getElem?_getD]; exact g2
theorem DSn.more (h : DSn W w b sb mb lb ob k n last) (hb : Below w.heap.size w w') : DSn W w' b sb mb lb ob k n last := by
  obtain ⟨hl4, hlb, hle, h6, over, d, ho4, hon, hob, hoe, hD, r⟩ := h
  exact ⟨hl4, hlb.below hb hlb.lt, hle, h6, over, d, ho4, hon, hob.below hb hob.lt, hoe, hD.more hb (Nat.le_refl _), r⟩
theorem DSn.write (h : DSn W w b sb mb lb ob k n last) (hn : n < 4) (hk : k < 12) (hc : 100 ≤ c.toNat) :
    Calls Try.prog 11 #[.pointer (some ⟨b, 0, none⟩), .int .i64 (n : Int), .string (strOf (fillB c))] w fun e w' => e = .returned (.int .i64 0) ∧ DS2 W w' b sb mb lb ob (k + 1) last := by
  obtain ⟨hl4, hlb, hle, h6, over, d, ho4, hon, hob, hoe, hD, h1, h2, h3, h4, h5, h7⟩ := h
  refine (write_go hD (Nat.le_refl _) n n rfl (fillB c) (fillB_length _) (by rw [h3]; exact hn) (by omega)).mono ?_
  rintro e w5 (⟨hx, _⟩ | ⟨_, rfl, hD5, hk5⟩)
  · rw [h1, h2] at hx; exact absurd hx (by decide)
  refine ⟨rfl, hl4, hk5 _ _ _ hlb (by decide) (by decide) (by decide), hle, h6, over, _, ho4, hk5 _ _ _ hob (by decide) (by decide) (by decide), hoe, hD5, by simp only [Dk.write, Dk.works, leftN, h1]; rfl, by simp only [Dk.write, Dk.works, brokeN, h1, h2]; rfl, h3, by simp [Dk.write]; omega, h5, fun x hx => ?_⟩
  simp only [Dk.write, List.mem_append, List.mem_singleton] at hx
  rcases hx with hx | rfl
  · exact h7 x hx
  · exact ⟨hn, hon, c, hc, rfl⟩
theorem DS2.crash (h : DS2 W w b sb mb lb ob k last) {fv : Value} {fs : List (Int × Int)} (hf : FatesAt w fv fs) :
    Calls Try.prog 17 #[.pointer (some ⟨b, 0, none⟩), fv] w fun e w' => (∃ x, e = .returned (.bool x)) ∧ ∃ over d, DS3 W w' b sb mb lb ob last over d := by
  obtain ⟨hl4, hlb, hle, h6, over, d, ho4, hob, hoe, hD, h1, h2, h3, h4, h5, h7⟩ := h
  refine (crash_go hD (Nat.le_refl _) hf).mono ?_
  rintro e w' ⟨rfl, hD', hk⟩
  refine ⟨⟨_, rfl⟩, over, _, hl4, hk _ _ _ hlb (by decide) (by decide) (by decide), h6, ho4, hk _ _ _ hob (by decide) (by decide) (by decide), hD', rfl, (crashSecs_length _ _ _ _).trans h3, rfl, fun j hj => ?_⟩
  exact crash_torn (over := fun j => over.getD j false) (lies := fun j => last.getD j 0) (fun j hj => by rw [h5 j (by omega)]; exact TornOk.fill _ _) (fun x hx => by rw [h3]; exact h7 x hx) _ j (by omega)
theorem DS3.more (h : DS3 W w b sb mb lb ob last over d) (hb : Below w.heap.size w w') : DS3 W w' b sb mb lb ob last over d := by
  obtain ⟨hl4, hlb, h6, ho4, hob, hD, r⟩ := h
  exact ⟨hl4, hlb.below hb hlb.lt, h6, ho4, hob.below hb hob.lt, hD.more hb (Nat.le_refl _), r⟩
theorem DS3.read (h : DS3 W w b sb mb lb ob last over d) (hn : n < 4) : Calls Try.prog 14 #[.pointer (some ⟨b, 0, none⟩), .int .i64 (n : Int)] w fun e w' =>
    e = .returned (.tuple #[.string (strOf (d.secs.getD n [])), .int .i64 0]) ∧ DS3 W w' b sb mb lb ob last over d := by
  obtain ⟨hl4, hlb, h6, ho4, hob, hD, h1, h2, h3, r⟩ := h
  refine (read_go hD (Nat.le_refl _) n n rfl (by rw [h2]; exact hn)).mono ?_
  rintro e w' ⟨⟨hx, _⟩ | ⟨_, rfl⟩, hD', hk⟩
  · rw [h1] at hx; cases hx
  refine ⟨?_, hl4, hk _ _ _ hlb (by decide) (by decide) (by decide), h6, ho4, hk _ _ _ hob (by decide) (by decide) (by decide), hD', h1, h2, h3, r⟩
  have : d.read n = d.secs.getD n [] := by unfold Dk.read; rw [h3]; rfl
  rw [this]
theorem DS3.dirty (h : DS3 W w b sb mb lb ob last over d) : Calls Try.prog 25 #[.pointer (some ⟨b, 0, none⟩)] w fun e w' => ∃ A c, e = .returned (.slice A 0 c) ∧ DS3 W w' b sb mb lb ob last over d := by
  obtain ⟨hl4, hlb, h6, ho4, hob, hD, h1, h2, h3, r⟩ := h
  refine (dirty_none hD (Nat.le_refl _) h3).mono ?_
  rintro e w' ⟨⟨A, c, rfl⟩, hD', hk⟩
  exact ⟨A, c, rfl, hl4, hk _ _ _ hlb (by decide) (by decide) (by decide), h6, ho4, hk _ _ _ hob (by decide) (by decide) (by decide), hD', h1, h2, h3, r⟩
theorem DS3.lie (h : DS3 W w b sb mb lb ob last over d) (hn : n < 4) : w.cell? ⟨lb, n, none⟩ = some (.int .u8 ((last.getD n 0).toNat : Int)) := by
  obtain ⟨hl4, hlb, _⟩ := h
  rw [hlb.cell n]
  simp [byteCells, List.getD, hl4, hn]
theorem DS3.ov (h : DS3 W w b sb mb lb ob last over d) (hn : n < 4) : w.cell? ⟨ob, n, none⟩ = some (.bool (over.getD n false)) := by
  obtain ⟨hl4, hlb, _, ho4, hob, _⟩ := h
  rw [hob.cell n]
  simp [boolCells, List.getD, ho4, hn]
theorem FatesAt.below {fv : Value} {fs : List (Int × Int)} (hf : FatesAt W fv fs) (hb : Below W.heap.size W w) : FatesAt w fv fs := by
  obtain ⟨A, c, rfl, h1, h2⟩ := hf
  refine ⟨A, c, rfl, h1, fun h0 => ?_⟩
  obtain ⟨g, off, rfl, hg, h3⟩ := h2 h0
  refine ⟨g, off, rfl, Nat.lt_of_lt_of_le hg hb.size, fun i hi => ?_⟩
  obtain ⟨h4, h5⟩ := h3 i hi
  exact ⟨(hb.cell (p := ⟨g, off + i * 2, none⟩) hg).trans h4, (hb.cell (p := ⟨g, off + i * 2 + 1, none⟩) hg).trans h5⟩
end
end Go.Proofs.Ytmhmfcphjfgppaa
