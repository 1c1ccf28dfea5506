/- Words of mine: a map in memory as a function of its keys. No program's number stands here. -/
import Derived.Test.YtmhmfcphjfgppaaBase
namespace Go.Proofs.Ytmhmfcphjfgppaa
open Go.RowKit
open Go.Maps (Keyed)

/-- Block b of w is a map that holds just what f says. -/
def MapFn (P : Program) (k : TypeId) (w : World) (b : Nat) (f : Value → Option Value) : Prop :=
  ∃ es clock, w.heap[b]? = some (.map es clock) ∧ (∀ e ∈ es.toList, ∃ l, keyOf P k e.key = some l) ∧
    es.toList.Pairwise (fun x y => x.key ≠ y.key) ∧ (∀ x v, f x = some v ↔ ∃ e ∈ es.toList, e.key = x ∧ e.val = v) ∧
    ((∀ e ∈ es.toList, e.born < clock) ∧ (es.toList.map (·.born)).Nodup)

/-- One key more. -/
noncomputable def putFn (f : Value → Option Value) (x v : Value) : Value → Option Value := fun y => by classical exact if y = x then some v else f y
noncomputable def delFn (f : Value → Option Value) (x : Value) : Value → Option Value := fun y => by classical exact if y = x then none else f y
theorem putFn_same (f : Value → Option Value) (x v : Value) : putFn f x v x = some v := by simp [putFn]
theorem putFn_other (f : Value → Option Value) {x y : Value} (v : Value) (h : y ≠ x) : putFn f x v y = f y := by simp [putFn, h]
theorem delFn_same (f : Value → Option Value) (x : Value) : delFn f x x = none := by simp [delFn]
theorem delFn_other (f : Value → Option Value) {x y : Value} (h : y ≠ x) : delFn f x y = f y := by simp [delFn, h]

section
variable {P : Program} {k e t : TypeId} {w w' : World} {b : Nat} {f : Value → Option Value}

theorem MapFn.lt (h : MapFn P k w b f) : b < w.heap.size := by
  obtain ⟨es, clock, hb, _⟩ := h
  exact (Array.getElem?_eq_some_iff.1 hb).1
theorem MapFn.new (P : Program) (k : TypeId) (w : World) : MapFn P k (w.alloc (.map #[] 0)) w.heap.size (fun _ => none) :=
  ⟨#[], 0, heap_alloc_new w _, by simp, by simp, by simp, by simp⟩
theorem MapFn.keep (h : MapFn P k w b f) (hb : w'.heap[b]? = w.heap[b]?) : MapFn P k w' b f := by
  obtain ⟨es, clock, h0, h⟩ := h
  exact ⟨es, clock, hb.trans h0, h⟩
theorem MapFn.alloc (h : MapFn P k w b f) (o : Obj) : MapFn P k (w.alloc o) b f := h.keep (heap_alloc_old w o h.lt)
theorem MapFn.setCell (h : MapFn P k w b f) (p : Addr) (u : Value) : MapFn P k (w.setCell p u) b f := by
  by_cases hp : b = p.block
  · obtain ⟨es, clock, h0, h⟩ := h
    refine ⟨es, clock, ?_, h⟩
    subst hp
    simp [World.setCell, Array.getElem?_modify, h0]
  · exact h.keep (heap_setCell_other w p b u hp)
theorem MapFn.drew (h : MapFn P k w b f) : MapFn P k w.drew b f := h
theorem MapFn.drewN (h : MapFn P k w b f) (n : Nat) : MapFn P k (w.drewN n) b f := h
theorem MapFn.frm {S : Nat → Prop} (h : MapFn P k w b f) (hf : Frm S w w') (hn : ¬ S b) : MapFn P k w' b f := h.keep (hf.block b h.lt hn)
theorem MapFn.grown {row : Option Nat} (h : MapFn P k w b f) (hg : w.grownBy w' row) (hn : some b ≠ row) : MapFn P k w' b f := h.keep (hg.block b h.lt hn)
theorem MapFn.below {B : Nat} (h : MapFn P k w b f) (hb : Below B w w') (hg : b < B) : MapFn P k w' b f := h.keep (hb.block b hg)
/-- A block of cells and a map's block differ. -/
theorem MapFn.ne_blk {g : Nat} {tg : TypeId} {cs : Array Value} (h : MapFn P k w b f) (hg : Blk w g tg cs) : b ≠ g := by
  rintro rfl
  obtain ⟨es, clock, h0, _⟩ := h
  unfold Blk at hg
  rw [hg] at h0
  cases h0
theorem MapFn.congr {f' : Value → Option Value} (h : MapFn P k w b f) (hf : ∀ x, f x = f' x) : MapFn P k w b f' := by
  have : f = f' := funext hf
  rw [← this]; exact h

theorem MapFn.look (h : MapFn P k w b f) (K : Keyed P k) (ht : P.underlying t = some (.map k e)) {z : Value} (hz : (zeroValue e).run P w = .ok z w) {x : Value} {l : Lit} (hx : keyOf P k x = some l) :
    (Instr.lookup t (.map (some b)) x false).run P w = .ok ((f x).getD z) w ∧
    (Instr.lookup t (.map (some b)) x true).run P w = .ok (.tuple #[(f x).getD z, .bool (f x).isSome]) w := by
  obtain ⟨es, clock, hb, hk, hp, hf, hst⟩ := h
  rcases K.find w hx es.toList hk with ⟨h1, h2⟩ | ⟨j, e0, h1, h2, h3⟩
  · have hn : f x = none := by
      cases hfx : f x with
      | none => rfl
      | some v =>
        obtain ⟨e0, he, h3, _⟩ := (hf x v).1 hfx
        exact absurd h3 (h2 e0 he)
    rw [hn]
    constructor <;> simp [Instr.lookup, run_underlying ht, MapKept.run_getObj_map hb, K.check w _ hx, h1, hz, Result.andThen]
  · have hn : f x = some e0.val := (hf x e0.val).2 ⟨e0, List.mem_of_getElem? h2, h3, rfl⟩
    rw [hn]
    constructor <;> simp [Instr.lookup, run_underlying ht, MapKept.run_getObj_map hb, K.check w _ hx, h1, Result.andThen]

theorem heap_setObj_same (w : World) {b : Nat} (hb : b < w.heap.size) (o : Obj) : ({ w with heap := w.heap.setIfInBounds b o } : World).heap[b]? = some o := by
  simp [hb]
theorem grown_setObj (w : World) (b : Nat) (o : Obj) : w.grownBy { w with heap := w.heap.setIfInBounds b o } (some b) :=
  ⟨rfl, rfl, rfl, by simp, fun i _ hi => by
    have : b ≠ i := fun h => hi (by rw [h])
    simp [this]⟩

theorem MapFn.put (h : MapFn P k w b f) (K : Keyed P k) (ht : P.underlying t = some (.map k e)) {x v : Value} {l : Lit} (hx : keyOf P k x = some l) :
    ∃ w', (Instr.mapUpdate t (.map (some b)) x v).run P w = .ok () w' ∧ MapFn P k w' b (putFn f x v) ∧ w.grownBy w' (some b) := by
  have hlt := h.lt
  obtain ⟨es, clock, hb, hk, hp, hf, hst⟩ := h
  rcases K.find w hx es.toList hk with ⟨h1, h2⟩ | ⟨j, e0, h1, h2, h3⟩
  · refine ⟨{ w with heap := w.heap.setIfInBounds b (.map (es.push { key := x, val := v, born := clock }) (clock + 1)) }, ?_, ?_, grown_setObj w b _⟩
    · simp [Instr.mapUpdate, run_underlying ht, MapKept.run_getObj_map hb, K.check w _ hx, h1, Result.andThen, MapKept.run_setObj_map _ hb]
    · refine ⟨_, _, heap_setObj_same w hlt _, ?_, ?_, ?_, ?_⟩
      · intro e' he'
        simp only [Array.toList_push, List.mem_append, List.mem_singleton] at he'
        rcases he' with he' | rfl
        · exact hk e' he'
        · exact ⟨l, hx⟩
      · simp only [Array.toList_push]
        rw [List.pairwise_append]
        refine ⟨hp, by simp, ?_⟩
        intro a ha c hc
        simp only [List.mem_singleton] at hc
        subst hc
        exact h2 a ha
      · intro y u
        simp only [Array.toList_push, List.mem_append, List.mem_singleton]
        by_cases hy : y = x
        · subst hy
          rw [putFn_same]
          constructor
          · intro hu; injection hu with hu; exact ⟨_, .inr rfl, rfl, hu⟩
          · rintro ⟨e', he' | rfl, h3, h4⟩
            · exact absurd h3 (h2 e' he')
            · simp at h4; rw [h4]
        · rw [putFn_other f v hy, hf y u]
          constructor
          · rintro ⟨e', he', h3⟩; exact ⟨e', .inl he', h3⟩
          · rintro ⟨e', he' | rfl, h3⟩
            · exact ⟨e', he', h3⟩
            · exact absurd h3.1.symm hy
      · constructor
        · intro e' he'
          simp only [Array.toList_push, List.mem_append, List.mem_singleton] at he'
          rcases he' with he' | rfl
          · exact Nat.lt_succ_of_lt (hst.1 e' he')
          · exact Nat.lt_succ_self _
        · simp only [Array.toList_push, List.map_append, List.map_cons, List.map_nil]
          rw [List.nodup_append]
          refine ⟨hst.2, by simp, ?_⟩
          intro x1 hx1 y1 hy1
          simp only [List.mem_singleton] at hy1
          obtain ⟨e', he', rfl⟩ := List.mem_map.1 hx1
          have := hst.1 e' he'
          omega
  · have hj : j < es.size := by
      have := (List.getElem?_eq_some_iff.1 h2).1; simpa using this
    have hget : es[j]? = some e0 := by rw [← h2]; simp
    refine ⟨{ w with heap := w.heap.setIfInBounds b (.map (es.modify j fun e => { e with key := x, val := v }) clock) }, ?_, ?_, grown_setObj w b _⟩
    · simp [Instr.mapUpdate, run_underlying ht, MapKept.run_getObj_map hb, K.check w _ hx, h1, Result.andThen, hget, h3, K.stays w hx, MapKept.run_setObj_map _ hb]
    · have hl : (es.modify j fun e => { e with key := x, val := v }).toList = es.toList.set j { e0 with key := x, val := v } := by
        rw [Array.toList_modify]
        apply List.ext_getElem?
        intro i
        rw [List.getElem?_modify, List.getElem?_set]
        by_cases hij : j = i
        · subst hij
          have hj' : j < es.toList.length := by simpa using hj
          simp only [h2, if_true, hj']
          rfl
        · simp [hij]
      have hkeep : ∀ i (hi : i < es.toList.length), i ≠ j → es.toList[i].key ≠ x := by
        intro i hi hne hx'
        have hj' : j < es.toList.length := by simpa using hj
        have he0 : es.toList[j] = e0 := by have := List.getElem?_eq_getElem hj'; rw [h2] at this; injection this with this; exact this.symm
        have hpw := List.pairwise_iff_getElem.1 hp
        rcases Nat.lt_or_gt_of_ne hne with hlt' | hgt
        · exact hpw i j hi hj' hlt' (by rw [hx', he0, h3])
        · exact hpw j i hj' hi hgt (by rw [hx', he0, h3])
      refine ⟨_, _, heap_setObj_same w hlt _, ?_, ?_, ?_, ?_⟩
      · intro e' he'
        rw [hl] at he'
        rcases List.mem_or_eq_of_mem_set he' with he' | rfl
        · exact hk e' he'
        · exact ⟨l, hx⟩
      · rw [hl, List.pairwise_iff_getElem]
        have hpw := List.pairwise_iff_getElem.1 hp
        have hj' : j < es.toList.length := by simpa using hj
        have he0 : es.toList[j] = e0 := by have := List.getElem?_eq_getElem hj'; rw [h2] at this; injection this with this; exact this.symm
        intro i i' hi hi' hlt'
        have hi1 : i < es.toList.length := by simpa using hi
        have hi1' : i' < es.toList.length := by simpa using hi'
        rw [List.getElem_set, List.getElem_set]
        have := hpw i i' hi1 hi1' hlt'
        split
        · rename_i hji; subst hji
          rw [if_neg (by omega)]
          rw [he0, h3] at this
          exact this
        · split
          · rename_i _ hji; subst hji
            rw [he0, h3] at this
            exact this
          · exact this
      · intro y u
        rw [hl]
        by_cases hy : y = x
        · subst hy
          rw [putFn_same]
          constructor
          · intro hu; injection hu with hu; subst hu
            exact ⟨_, List.mem_set (by simpa using hj) _, rfl, rfl⟩
          · rintro ⟨e', he', h4, h5⟩
            obtain ⟨i, hi, rfl⟩ := List.getElem_of_mem he'
            rw [List.getElem_set] at h4 h5
            by_cases hij : j = i
            · rw [if_pos hij] at h5; rw [← h5]
            · rw [if_neg hij] at h4
              exact absurd h4 (hkeep i (by simpa using hi) (fun e => hij e.symm))
        · rw [putFn_other f v hy, hf y u]
          constructor
          · rintro ⟨e', he', h4, h5⟩
            obtain ⟨i, hi, rfl⟩ := List.getElem_of_mem he'
            have hij : j ≠ i := by
              rintro rfl
              have : es.toList[j] = e0 := by have := List.getElem?_eq_getElem hi; rw [h2] at this; injection this with this; exact this.symm
              rw [this, h3] at h4
              exact hy h4.symm
            refine ⟨es.toList[i], ?_, h4, h5⟩
            have : (es.toList.set j { e0 with key := x, val := v })[i]? = some es.toList[i] := by rw [List.getElem?_set, if_neg hij]; exact List.getElem?_eq_getElem hi
            exact List.mem_of_getElem? this
          · rintro ⟨e', he', h4, h5⟩
            rcases List.mem_or_eq_of_mem_set he' with he' | rfl
            · exact ⟨e', he', h4, h5⟩
            · exact absurd h4.symm hy
      · have hj' : j < es.toList.length := by simpa using hj
        have he0 : es.toList[j] = e0 := by have := List.getElem?_eq_getElem hj'; rw [h2] at this; injection this with this; exact this.symm
        have hborn : (es.toList.set j { e0 with key := x, val := v }).map (·.born) = es.toList.map (·.born) := by
          rw [List.map_set]
          apply List.ext_getElem?
          intro i
          rw [List.getElem?_set]
          split
          · rename_i hji; subst hji
            rw [if_pos (by simpa using hj'), List.getElem?_map, List.getElem?_eq_getElem hj', he0]; rfl
          · rfl
        rw [hl, hborn]
        refine ⟨?_, hst.2⟩
        intro e' he'
        rcases List.mem_or_eq_of_mem_set he' with he' | rfl
        · exact hst.1 e' he'
        · exact hst.1 e0 (by rw [← he0]; exact List.getElem_mem hj')

theorem MapFn.cleared (h : MapFn P k w b f) (ht : P.underlying t = some (.map k e)) (ty : TypeId) :
    ∃ w', (Builtin.clear_ #[t] ty #[.map (some b)]).run P w = .ok (.tuple #[]) w' ∧ MapFn P k w' b (fun _ => none) ∧ w.grownBy w' (some b) := by
  have hlt := h.lt
  obtain ⟨es, clock, hb, hk, hp, hf, hst⟩ := h
  refine ⟨{ w with heap := w.heap.setIfInBounds b (.map #[] clock) }, ?_, ⟨#[], clock, heap_setObj_same w hlt _, by simp, by simp, by simp, by simp⟩, grown_setObj w b _⟩
  simp [Builtin.clear_, run_underlying ht, MapKept.run_getObj_map hb, Result.andThen, MapKept.run_setObj_map _ hb]

end
end Go.Proofs.Ytmhmfcphjfgppaa
