/- DiskStays: the plain laws: what a crash leaves; Dirty of an empty cache; a slice of fates opened. -/
import Derived.Test.YtmhmfcphjfgppaaDiskReads
import Derived.Test.YtmhmfcphjfgppaaDiskBreaks
import Derived.Test.YtmhmfcphjfgppaaDisk8
import Derived.Test.YtmhmfcphjfgppaaStep
import Derived.Deep.SlicePairs
namespace Go.Proofs.Ytmhmfcphjfgppaa
open Go.RowKit Go.ChangeShapes Go.WideShapes

/-- What a sector of one byte l may be behind a crash: a beginning of bytes of 100 and more, and then l; without a write it is as it was. -/
def TornOk (o : Bool) (l : UInt8) (s : List UInt8) : Prop :=
  s.length = 128 ∧ (o = false → s = fillB l) ∧ ∃ m : Nat, (∀ j, j < 128 → j < m → 100 ≤ (s.getD j 0).toNat) ∧ (∀ j, j < 128 → m ≤ j → s.getD j 0 = l)
theorem fillB_getD (c : UInt8) (j : Nat) (h : j < 128) : (fillB c).getD j 0 = c := by
  unfold fillB
  rw [List.getD_eq_getElem?_getD, List.getElem?_replicate, if_pos h, Option.getD_some]
theorem TornOk.fill (o : Bool) (l : UInt8) : TornOk o l (fillB l) := ⟨fillB_length l, fun _ => rfl, 0, fun j _ h => by omega, fun j hj _ => fillB_getD l j hj⟩
theorem torn_getD {n : Nat} {new old : List UInt8} (hn : n ≤ 128) (h1 : new.length = 128) (j : Nat) : (tornSec n new old).getD j 0 = if j < n then new.getD j 0 else old.getD j 0 := by
  unfold tornSec
  simp only [List.getD_eq_getElem?_getD]
  split
  · rename_i h
    rw [List.getElem?_append_left (by simp; omega), List.getElem?_take, if_pos h]
  · rename_i h
    rw [List.getElem?_append_right (by simp; omega), List.getElem?_drop, List.length_take, Nat.min_eq_left (by omega)]
    congr 2; omega
theorem TornOk.torn {l c : UInt8} {s : List UInt8} {n : Nat} {o : Bool} (h : TornOk o l s) (ho : o = true) (hn : n ≤ 128) (hc : 100 ≤ c.toNat) : TornOk o l (tornSec n (fillB c) s) := by
  obtain ⟨h1, _, m, h2, h3⟩ := h
  refine ⟨tornSec_length hn (fillB_length c) h1, fun e => by rw [ho] at e; (cases e), max n m, fun j hj hm => ?_, fun j hj hm => ?_⟩
  · rw [torn_getD hn (fillB_length c)]
    split
    · rw [fillB_getD c j hj]; exact hc
    · exact h2 j hj (by omega)
  · rw [torn_getD hn (fillB_length c), if_neg (by omega)]
    exact h3 j hj (by omega)
theorem crash_torn {secs : List (List UInt8)} {c : List (Nat × List UInt8)} {fs : List (Int × Int)} {over : Nat → Bool} {lies : Nat → UInt8}
    (hs : ∀ j, j < secs.length → TornOk (over j) (lies j) (secs.getD j [])) (hc : ∀ x ∈ c, x.1 < secs.length ∧ over x.1 = true ∧ ∃ e : UInt8, 100 ≤ e.toNat ∧ x.2 = fillB e) :
    ∀ k j, j < secs.length → TornOk (over j) (lies j) ((crashSecs secs c fs k).getD j [])
  | 0, j, hj => hs j hj
  | k + 1, j, hj => by
    have ih := crash_torn (fs := fs) hs hc k
    unfold crashSecs
    split
    · rename_i x hx
      obtain ⟨g1, g2, e, g3, g4⟩ := hc x (List.mem_of_getElem? hx)
      have hlt : x.1 < (crashSecs secs c fs k).length := by rw [crashSecs_length]; exact g1
      by_cases he : x.1 = j
      · subst he
        rw [List.getD_eq_getElem?_getD, List.getElem?_set_self hlt, Option.getD_some, g4]
        exact (ih x.1 hj).torn g2 (crashN_le fs k) g3
      · rw [List.getD_eq_getElem?_getD, List.getElem?_set_ne he, ← List.getD_eq_getElem?_getD]
        exact ih j hj
    · exact ih j hj

theorem dirty_go {B b sb mb : Nat} {w0 w : World} {d : Dk} (hD : DkAt B w0 w b sb mb d) (h0 : B ≤ w0.heap.size) :
    Calls Try.prog 25 #[.pointer (some ⟨b, 0, none⟩)] w fun e w' => (∃ A c, e = .returned (.slice A (dirtyL d).length c)) ∧ DkAt B w0 w' b sb mb d ∧ KeepsT w w' := by
  have hD0 := hD
  obtain ⟨cv, h1, h2, h3⟩ := hD
  refine (dirty_any h1).mono ?_
  rintro e w' ⟨v, rfl, hr, hb⟩
  refine ⟨?_, hD0.more hb h0, .of_below hb⟩
  rcases hr.2 with ⟨rfl, hn⟩ | ⟨g, cap, cur, rfl, _⟩
  · exact ⟨none, 0, by rw [hn]⟩
  · exact ⟨_, _, rfl⟩
theorem dirtyL_nil {d : Dk} (h : d.cache = []) : dirtyL d = [] := by
  unfold dirtyL; rw [h]; simp
theorem dirty_none {B b sb mb : Nat} {w0 w : World} {d : Dk} (hD : DkAt B w0 w b sb mb d) (h0 : B ≤ w0.heap.size) (hc : d.cache = []) :
    Calls Try.prog 25 #[.pointer (some ⟨b, 0, none⟩)] w fun e w' => (∃ A c, e = .returned (.slice A 0 c)) ∧ DkAt B w0 w' b sb mb d ∧ KeepsT w w' := by
  have := dirty_go hD h0
  rwa [dirtyL_nil hc] at this

theorem open_fatesAt {H : Type} {enc : TypeId × Value → H} {P : Program} {w : World} {sp : Nat → Bool} {hd : Bool} {base : Nat} {t e : TypeId} {f0 f1 : Field} {v : Value} {d : DataW H} {ps : List MemPlace} (ht : P.underlying t = some (.slice e)) (he : P.underlying e = some (.struct #[f0, f1]))
    (ce : P.cellsOf e = 2) (o0 : f0.offset = 0) (o1 : f1.offset = 1) (c0 : P.cellsOf f0.type = 1) (c1 : P.cellsOf f1.type = 1) (i0 : P.underlying f0.type = some (.int .i64)) (i1 : P.underlying f1.type = some (.int .i64))
    (h : DataW.Trod enc P w base sp hd t v d ps) (h1 : v.cells = #[v]) : ∃ fs, FatesAt w v fs := by
  obtain ⟨n, hn⟩ := h
  rw [h1] at hn
  rcases Go.Deep.open_slice_pairs ht he ce o0 o1 c0 c1 hn with ⟨e1, _⟩ | ⟨a, len, cap, m, n, V0, V1, D0, D1, P0, P1, e1, _, hl, hm, hmm, _, hcell⟩
  · simp only [List.cons.injEq, and_true] at e1
    exact ⟨[], none, 0, e1, by simp, fun h => by simp at h⟩
  · simp only [List.cons.injEq, and_true] at e1
    have hlm : len ≤ m := by rw [hmm]; split <;> omega
    have hi : ∀ i, ∃ p : Int × Int, i < m → w.cell? (a.add (i * 2)) = some (.int .i64 p.1) ∧ w.cell? (a.add (i * 2 + 1)) = some (.int .i64 p.2) := by
      intro i
      by_cases hi : i < m
      · obtain ⟨q1, q2, q3, q4⟩ := hcell i hi
        obtain ⟨x, ex, _, _⟩ := DataW.trod_int i0 q3
        obtain ⟨y, ey, _, _⟩ := DataW.trod_int i1 q4
        simp at ex ey
        exact ⟨(x, y), fun _ => ⟨by rw [q1, ex], by rw [q2, ey]⟩⟩
      · exact ⟨(0, 0), fun h => absurd h hi⟩
    obtain ⟨F, hF⟩ := Classical.axiomOfChoice hi
    refine ⟨(List.range len).map F, some a, cap, by simp [e1], by simp; unfold maxLen at hm; omega, fun h0 => ?_⟩
    simp only [List.length_map, List.length_range] at h0
    obtain ⟨b, off, rfl, hb⟩ := addr_of_cell (hF 0 (by omega)).1
    refine ⟨b, off, rfl, hb, fun i hii => ?_⟩
    simp only [List.length_map, List.length_range] at hii
    have := hF i (by omega)
    rw [Addr.add_mid, Addr.add_mid] at this
    rw [Nat.add_assoc, this.1, this.2]
    simp [List.getD, hii]
end Go.Proofs.Ytmhmfcphjfgppaa
