/- Words of mine: a segment of a block is read, or written. No program's number stands here. -/
import Derived.Test.YtmhmfcphjfgppaaMap
import Derived.Deep.MidRow
import Derived.Lib.LazyBuf
namespace Go.Proofs.Ytmhmfcphjfgppaa
open Go.RowKit

section
variable {w : World} {g : Nat} {t : TypeId} {S : Nat → Prop}

theorem splice_length {α : Type} (L : List α) (o : Nat) (vs : List α) (h : o + vs.length ≤ L.length) : (splice L o vs).length = L.length := length_splice L o vs h
theorem splice_nil {α : Type} (L : List α) (o : Nat) : splice L o [] = L := by simp [splice]
theorem splice_cons {α : Type} (L : List α) (o : Nat) (v : α) (vs : List α) (h : o + (vs.length + 1) ≤ L.length) : splice (L.set o v) (o + 1) vs = splice L o (v :: vs) := by
  unfold splice
  have h1 : (L.set o v).take (o + 1) = L.take o ++ [v] := by
    have : o < L.length := by omega
    rw [List.take_set, List.take_add_one, List.set_append_right _ _ (by simp; omega)]
    simp [this, Nat.min_eq_left (Nat.le_of_lt this)]
  have h2 : (L.set o v).drop (o + 1 + vs.length) = L.drop (o + 1 + vs.length) := by
    rw [List.drop_set_of_lt (by omega)]
  rw [h1, h2]
  simp [Nat.add_comm, Nat.add_left_comm]

theorem Blk.setCells : ∀ (vs : List Value) (o : Nat) (w : World) (L : List Value), Blk w g t L.toArray → o + vs.length ≤ L.length → Blk (w.setCells g o vs) g t (splice L o vs).toArray
  | [], o, w, L, h, _ => by rw [splice_nil]; exact h
  | v :: vs, o, w, L, h, hl => by
    have h1 := h.set o v
    rw [List.setIfInBounds_toArray] at h1
    have := Blk.setCells vs (o + 1) _ _ h1 (by simp at hl ⊢; omega)
    rw [splice_cons L o v vs (by simpa using hl)] at this
    exact this

theorem Frm.setCells {w0 : World} (hp : S g ∨ w0.heap.size ≤ g) : ∀ (vs : List Value) (o : Nat) (w' : World), Frm S w0 w' → Frm S w0 (w'.setCells g o vs)
  | [], _, _, h => h
  | v :: vs, o, w', h => Frm.setCells hp vs (o + 1) _ (h.setCell (p := ⟨g, o, none⟩) hp v)

theorem heap_setCells_other {k : Nat} (hk : k ≠ g) : ∀ (vs : List Value) (o : Nat) (w : World), (w.setCells g o vs).heap[k]? = w.heap[k]?
  | [], _, _ => rfl
  | v :: vs, o, w => (heap_setCells_other hk vs (o + 1) _).trans (heap_setCell_other w ⟨g, o, none⟩ k v hk)
theorem size_setCells : ∀ (vs : List Value) (o : Nat) (w : World), (w.setCells g o vs).heap.size = w.heap.size
  | [], _, _ => rfl
  | v :: vs, o, w => (size_setCells vs (o + 1) _).trans (by simp [World.setCell])
theorem Blk.setCells_far {g' : Nat} {t' : TypeId} {cs : Array Value} (h : Blk w g' t' cs) (hne : g' ≠ g) (o : Nat) (vs : List Value) : Blk (w.setCells g o vs) g' t' cs :=
  (heap_setCells_other hne vs o w).trans h

theorem setCells_alloc (w : World) (t : TypeId) : ∀ (vs : List Value) (o : Nat) (L : List Value), o + vs.length ≤ L.length →
    (w.alloc (.cells L.toArray t)).setCells w.heap.size o vs = w.alloc (.cells (splice L o vs).toArray t)
  | [], o, L, _ => by rw [splice_nil]; rfl
  | v :: vs, o, L, hl => by
    show ((w.alloc (.cells L.toArray t)).setCell ⟨w.heap.size, o, none⟩ v).setCells w.heap.size (o + 1) vs = _
    rw [World.setCell_alloc_at _ _ _ _ _ rfl, List.setIfInBounds_toArray, setCells_alloc w t vs (o + 1) (L.set o v) (by simp at hl ⊢; omega), splice_cons L o v vs (by simpa using hl)]

theorem Blk.range {L : List Value} (h : Blk w g t L.toArray) (o n : Nat) : w.rangeAt g o ((L.drop o).take n) := by
  intro j v hv
  rw [h.cell]
  rw [List.getElem?_take] at hv
  split at hv
  · rw [List.getElem?_drop] at hv; simpa using hv
  · cases hv
theorem Blk.there {L : List Value} (h : Blk w g t L.toArray) {o n : Nat} (hl : o + n ≤ L.length) : w.there g o n := by
  intro j hj
  refine ⟨?_, h.frozen _⟩
  rw [h.cell]
  have : o + j < L.length := by omega
  simp [this]

theorem cell_setCells {w : World} {g : Nat} {p : Addr} (hp : p.block ≠ g) (o : Nat) (vs : List Value) : (w.setCells g o vs).cell? p = w.cell? p :=
  World.cell?_of_block (w := w) (heap_setCells_other hp vs o w)
theorem range_setCells {w : World} {g b o' : Nat} {cs : List Value} (h : w.rangeAt b o' cs) (hp : b ≠ g) (o : Nat) (vs : List Value) : (w.setCells g o vs).rangeAt b o' cs :=
  fun j v hv => (cell_setCells (p := ⟨b, o' + j, none⟩) hp o vs).trans (h j v hv)

/-- Rows of equal length, one behind the other: the k-th is cut out. -/
theorem flat_seg {α β : Type} (f : α → List β) (m : Nat) : ∀ (l : List α), (∀ x ∈ l, (f x).length = m) → ∀ k (hk : k < l.length), ((l.flatMap f).drop (k * m)).take m = f l[k]
  | [], _, k, hk => by simp at hk
  | x :: l, h, 0, hk => by
    have hx := h x (by simp)
    simp [← hx]
  | x :: l, h, k + 1, hk => by
    have hx := h x (by simp)
    have ih := flat_seg f m l (fun y hy => h y (by simp [hy])) k (by simpa using hk)
    have e : (k + 1) * m = (f x).length + k * m := by rw [hx, Nat.add_mul]; omega
    rw [List.flatMap_cons, e, List.drop_append, List.drop_eq_nil_of_le (Nat.le_add_right _ _)]
    simpa using ih
theorem flat_len {α β : Type} (f : α → List β) (m : Nat) : ∀ (l : List α), (∀ x ∈ l, (f x).length = m) → (l.flatMap f).length = l.length * m
  | [], _ => by simp
  | x :: l, h => by
    rw [List.flatMap_cons, List.length_append, h x (by simp), flat_len f m l (fun y hy => h y (by simp [hy])), List.length_cons, Nat.add_mul]; omega
theorem flat_seg' {α β : Type} (f : α → List β) (m : Nat) (l : List α) (hm : ∀ x ∈ l, (f x).length = m) (L : List β) (hL : L.take (l.length * m) = l.flatMap f) (k : Nat) (hk : k < l.length) : (L.drop (k * m)).take m = f l[k] := by
  rw [← flat_seg f m l hm k hk, ← hL, List.drop_take, List.take_take]
  congr 1
  have : (k + 1) * m ≤ l.length * m := Nat.mul_le_mul_right m hk
  rw [Nat.add_mul] at this
  omega
theorem flat_set {α β : Type} (f : α → List β) (m : Nat) : ∀ (l : List α), (∀ x ∈ l, (f x).length = m) → ∀ k (y : α), k < l.length → (f y).length = m → splice (l.flatMap f) (k * m) (f y) = (l.set k y).flatMap f
  | [], _, k, y, hk, _ => by simp at hk
  | x :: l, h, 0, y, hk, hy => by
    have hx := h x (by simp)
    unfold splice
    simp [hy, ← hx]
  | x :: l, h, k + 1, y, hk, hy => by
    have hx := h x (by simp)
    have ih := flat_set f m l (fun y hy => h y (by simp [hy])) k y (by simpa using hk) hy
    have e : (k + 1) * m = (f x).length + k * m := by rw [hx, Nat.add_mul]; omega
    rw [List.flatMap_cons, List.set_cons_succ, List.flatMap_cons, ← ih, e]
    unfold splice
    rw [List.take_append, List.take_of_length_le (by omega), Nat.add_assoc, List.drop_append]
    simp

theorem own_slice {w : World} {base : Nat} {e : TypeId} {size n : Nat} {v : Value} {xs : List Value} (h : w.ownsRow base e size v n xs) :
    ∃ A c, v = .slice A n c ∧ n ≤ c ∧ (0 < n → ∃ g L, A = some ⟨g, 0, none⟩ ∧ Blk w g e (List.toArray L) ∧ L.take (n * size) = xs ∧ n * size ≤ L.length) := by
  rcases h.2 with ⟨rfl, rfl⟩ | ⟨g, cap, cur, rfl, _, hh, hc, _, hs, ht⟩
  · exact ⟨none, 0, rfl, Nat.le_refl _, fun h => absurd h (by omega)⟩
  · exact ⟨_, cap, rfl, hc, fun _ => ⟨g, cur.toList, rfl, by simpa [Blk] using hh, ht, by rw [Array.length_toList, hs]; exact Nat.mul_le_mul_right size hc⟩⟩
end
end Go.Proofs.Ytmhmfcphjfgppaa
