/- Words of mine: a law's row, closed from its walk; slices of numbers and bools that came in. No program's number stands here. -/
import Derived.Test.YtmhmfcphjfgppaaGat
import Derived.ProofKit
import Derived.Deep.Grids
import Derived.JoinedCond
import Derived.OpenShut
namespace Go.Proofs.Ytmhmfcphjfgppaa
open Go.ChangeShapes Go.WideShapes Go.ChangeAt Go.RowKit

section
variable {H : Type} {enc : TypeId × Value → H} {P : Program}

theorem trodAll_stays (hl : laidOutB P = true) {W W' : World} (hb : Below W.heap.size W W') {sp : Nat → Bool} : ∀ (ts : List TypeId) (vs : List Value) (ds : List (DataW H)) (ps : List MemPlace),
    (∀ t ∈ ts, P.readableRec t = true ∧ t < P.types.size) → DataW.TrodAll enc P W 0 (fun _ => true) true ts vs ds ps → (∀ x ∈ ps, x.block < W.heap.size) → (∀ x ∈ ps, sp x.block = true) → DataW.TrodAll enc P W' 0 sp true ts vs ds ps
  | [], vs, ds, ps, _, h, _, _ => by
    obtain ⟨rfl, rfl, rfl⟩ := trodAll_nil h
    exact trodAll_mk0
  | t :: ts, vs, ds, ps, ht, h, hlt, hsp => by
    obtain ⟨v, vs', d, ds', p, q, rfl, rfl, rfl, h1, h2⟩ := trodAll_cons h
    obtain ⟨hr, hrow⟩ := ht t (by simp)
    exact trodAll_cons_mk (WideElems.Trod_stays hl hr hrow h1 (fun x hx => hb.same (hlt x (by simp [hx]))) (fun x hx => hsp x (by simp [hx])))
      (trodAll_stays hl hb ts vs' ds' q (fun t ht' => ht t (by simp [ht'])) h2 (fun x hx => hlt x (by simp [hx])) (fun x hx => hsp x (by simp [hx])))

/-- The end of a law's row: it returned true, and nothing that was there has turned. -/
theorem law_end {f : Func} {s : ChangeSpec} {W W' : World} {args : Array Value} {ds gs : List (DataW H)} {before : List MemPlace} (hl : laidOutB P = true) (hts : ∀ t ∈ f.params.toList, P.readableRec t = true ∧ t < P.types.size)
    {tb : TypeId} (hres : f.resultTypes = #[tb]) (htb : P.underlying tb = some .bool) (hvars : s.vars = []) (hW : DataW.Whole enc P f.params.toList s.vars false W args.toList ds gs before)
    (hs : (s.fn H (ds ++ gs)).results = [.lit (.bool true)]) (ha : (s.fn H (ds ++ gs)).args = ds) (hv : (s.fn H (ds ++ gs)).vars = []) (hb : Below W.heap.size W W') : s.post enc P f false true false false W args (.bool true) W' := by
  have hlt : ∀ p ∈ before, p.block < W.heap.size := fun p hp => hW.lt p hp
  have hW0 := hW
  obtain ⟨p, q, hA, hV, rfl, hfz, hnd⟩ := hW
  rw [hvars] at hV
  have hq : q = [] ∧ gs = [] := by
    obtain ⟨h1, h2⟩ := trodVars_none hV
    exact ⟨by first | exact h1 | exact h2, by first | exact h2 | exact h1⟩
  obtain ⟨rfl, rfl⟩ := hq
  simp only [List.append_nil] at hlt hW0 hfz hnd
  have hsz : f.resultTypes.size = 1 := by rw [hres]; rfl
  have hrl : (Value.bool true).resultList f.resultTypes.size = [.bool true] := by rw [hsz]; rfl
  have hresT : ∀ (b : Nat) (sp : Nat → Bool) (hd : Bool), DataW.TrodAll enc P W' b sp hd f.resultTypes.toList ((Value.bool true).resultList f.resultTypes.size) (s.fn H (ds ++ [])).results [] := by
    intro b sp hd
    rw [hrl, hs, hres]
    exact trodAll_mk1 (shut_bool htb true)
  have hargT : ∀ sp : Nat → Bool, (∀ x ∈ p, sp x.block = true) → DataW.TrodAll enc P W' 0 sp true f.params.toList args.toList (s.fn H (ds ++ [])).args p := by
    intro sp hsp
    rw [ha]
    exact trodAll_stays hl hb _ _ _ _ hts hA hlt hsp
  have hvarT : ∀ sp : Nat → Bool, DataW.TrodVars enc P W' sp s.vars (s.fn H (ds ++ [])).vars [] := by
    intro sp
    rw [hvars, hv]
    rfl
  refine ⟨ds, [], p, [], p, [], hW0, hresT _ _ _, hargT _ (fun x hx => by simpa using hlt x hx), hvarT _, World.keptBut_mono (fun x hx => ⟨hx, .inr (.inl hx)⟩) (hb.frame (· ∈ p)), fun _ => ?_⟩
  refine ⟨?_, _, _, ([] ++ p) ++ [], ⟨[] ++ p, [], trodAll_append (hargT _ (fun _ _ => rfl)) (hresT _ _ _), hvarT _, rfl, ?_, ?_⟩, ?_⟩
  · intro j t r ht hr
    rw [hrl] at hr
    rw [hres] at ht
    cases j with
    | zero =>
      simp only [List.getElem?_toArray, List.getElem?_cons_zero, Option.some.injEq] at ht hr
      subst ht; subst hr
      exact okWide_bool_mk htb true
    | succ j => simp at hr
  · intro b off hp
    have hin : MemPlace.cell b off ∈ p := by simpa using hp
    rw [hb.frozen (hlt _ hin)]
    exact hfz b off hin
  · intro ha'
    cases ha'
  · intro x hx _
    simpa using hx
end

/-- A slice of int64s that came in. -/
def IntsAt (w : World) (v : Value) (xs : List Int) : Prop :=
  ∃ A c, v = .slice A xs.length c ∧ xs.length ≤ 9223372036854775807 ∧ (0 < xs.length → ∃ b off, A = some ⟨b, off, none⟩ ∧ b < w.heap.size ∧ ∀ i, i < xs.length → w.cell? ⟨b, off + i, none⟩ = some (.int .i64 (xs.getD i 0)))
/-- A slice of bools that came in. -/
def BoolsAt (w : World) (v : Value) (xs : List Bool) : Prop :=
  ∃ A c, v = .slice A xs.length c ∧ xs.length ≤ 9223372036854775807 ∧ (0 < xs.length → ∃ b off, A = some ⟨b, off, none⟩ ∧ b < w.heap.size ∧ ∀ i, i < xs.length → w.cell? ⟨b, off + i, none⟩ = some (.bool (xs.getD i false)))

theorem addr_of_cell {w : World} {a : Addr} {v : Value} (h : w.cell? (a.add 0) = some v) : ∃ b off, a = ⟨b, off, none⟩ ∧ b < w.heap.size := by
  have h0 : a.add 0 = a := by simp [Addr.add]
  rw [h0] at h
  have hlt := block_lt_of_cell h
  obtain ⟨b, off, spot⟩ := a
  cases spot with
  | none => exact ⟨b, off, rfl, hlt⟩
  | some s =>
    exfalso
    unfold World.cell? at h
    split at h <;> simp_all

section
variable {H : Type} {enc : TypeId × Value → H} {P : Program} {w : World} {sp : Nat → Bool} {hd : Bool} {base : Nat}
theorem open_intsAt {t e : TypeId} {v : Value} {d : DataW H} {ps : List MemPlace} (ht : P.underlying t = some (.slice e)) (he : P.underlying e = some (.int .i64)) (hc : P.cellsOf e = 1)
    (h : DataW.Trod enc P w base sp hd t v d ps) (h1 : v.cells = #[v]) : ∃ xs, IntsAt w v xs ∧ ∀ x ∈ xs, (Lit.int .i64 x).wf = true := by
  obtain ⟨n, hn⟩ := h
  rw [h1] at hn
  rcases open_ints ht he hc hn with ⟨e1, _⟩ | ⟨a, len, cap, zs, e1, _, hl, hm, hz, _, hcell, hwf⟩
  · simp only [List.cons.injEq, and_true] at e1
    exact ⟨[], ⟨none, 0, e1, by simp, fun h => by simp at h⟩, by simp⟩
  · simp only [List.cons.injEq, and_true] at e1
    have hlz : len ≤ zs.length := by rw [hz]; split <;> omega
    refine ⟨zs.take len, ⟨some a, cap, by rw [e1, List.length_take, Nat.min_eq_left hlz], by rw [List.length_take]; unfold maxLen at hm; omega, fun h0 => ?_⟩, fun x hx => hwf x (List.mem_of_mem_take hx)⟩
    rw [List.length_take, Nat.min_eq_left hlz] at h0
    obtain ⟨b, off, rfl, hb⟩ := addr_of_cell (hcell 0 (by omega))
    refine ⟨b, off, rfl, hb, fun i hi => ?_⟩
    rw [List.length_take, Nat.min_eq_left hlz] at hi
    have := hcell i (by omega)
    rw [Addr.add_mid] at this
    rw [this]
    simp [List.getD, List.getElem?_take, hi]
theorem open_boolsAt {t e : TypeId} {v : Value} {d : DataW H} {ps : List MemPlace} (ht : P.underlying t = some (.slice e)) (he : P.underlying e = some .bool) (hc : P.cellsOf e = 1)
    (h : DataW.Trod enc P w base (fun _ => true) hd t v d ps) (h1 : v.cells = #[v]) : ∃ xs, BoolsAt w v xs := by
  obtain ⟨n, hn⟩ := h
  rw [h1] at hn
  rcases Go.Deep.open_bools ht he hc hn with ⟨e1, _⟩ | ⟨a, len, cap, B, e1, _, hl, hm, _, hcell⟩
  · simp only [List.cons.injEq, and_true] at e1
    exact ⟨[], none, 0, e1, by simp, fun h => by simp at h⟩
  · simp only [List.cons.injEq, and_true] at e1
    refine ⟨(List.range len).map B, some a, cap, by simp [e1], by simp; unfold maxLen at hm; omega, fun h0 => ?_⟩
    simp only [List.length_map, List.length_range] at h0
    obtain ⟨b, off, rfl, hb⟩ := addr_of_cell (hcell 0 (by omega))
    refine ⟨b, off, rfl, hb, fun i hi => ?_⟩
    simp only [List.length_map, List.length_range] at hi
    have := hcell i (by omega)
    rw [Addr.add_mid] at this
    rw [this]
    simp [List.getD, hi]
end
end Go.Proofs.Ytmhmfcphjfgppaa
