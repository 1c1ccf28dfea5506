/- Words of mine: a region that draws its order, walked in one order that a check over its text allows. No program's number stands here. -/
import Derived.Test.YtmhmfcphjfgppaaOps
import Derived.OrdersHeld
import Derived.RegionTactic
import Derived.Deep.RegionHeld3
namespace Go.Proofs.Ytmhmfcphjfgppaa

section
variable {P : Program} {ops : Array Oper} {md : Region.Mode} {Q : Exit → Act → World → Prop} {S : World → Prop}

/-- Whatever order is picked from here on; behind each operation that 'hold' names S is shown anew. -/
def wpAnyS (P : Program) (md : Region.Mode) (ops : Array Oper) (Q : Exit → Act → World → Prop) (S : World → Prop) (hold : Nat → Bool) : Nat → Array Bool → Act → World → Prop
  | 0, listed, a, w => Region.ready md ops listed = [] ∧ Q .normal a w
  | fuel + 1, listed, a, w => (Region.ready md ops listed = [] → Q .normal a w) ∧
    ∀ i ∈ Region.ready md ops listed, wpOp P ops Q i (fun a' w' => (hold i = true → S w') ∧ wpAnyS P md ops Q S hold fuel (listed.setIfInBounds i true) a' w') a w

variable {hold : Nat → Bool}
theorem wpAny_of_S : ∀ (fuel : Nat) (listed : Array Bool) (a : Act) (w : World), wpAnyS P md ops Q S hold fuel listed a w → wpAny P md ops Q fuel listed a w
  | 0, _, _, _, h => h
  | fuel + 1, _, _, _, h => ⟨h.1, fun i hi => wpOp_mono (fun a' w' h' => wpAny_of_S fuel _ a' w' h'.2) (h.2 i hi)⟩
theorem wpAnyS_done {listed : Array Bool} {a : Act} {w : World} (hr : Region.ready md ops listed = []) (h : Q .normal a w) : ∀ fuel, wpAnyS P md ops Q S hold fuel listed a w
  | 0 => ⟨hr, h⟩
  | _ + 1 => ⟨fun _ => h, by rw [hr]; simp⟩

/-- Operation i may be taken first. -/
theorem wpAnyS_first {i : Nat} {oi : Oper} {v : Value} (hi : ops[i]? = some oi) (hsel : Region.noSelect ops = true) (hQ : ∀ c a w, Q (.panic c) (a.put oi.dst v) w → Q (.panic c) a w)
    (hedge : hold i = true → ∀ j oj, hold j = false → ops[j]? = some oj → ∃ e ∈ oj.after, Region.binds md e = true ∧ e.on = i) :
    ∀ (fuel : Nat) (listed : Array Bool) (a : Act) (w : World),
      (∀ j oj, ops[j]? = some oj → j ≠ i → listed.getD j true = false → (∀ e ∈ oj.after, Region.binds md e = true → e.on ≠ i) → oi.apart ops oj = true) →
      i ∈ Region.ready md ops listed → YieldsIf P ops (fun w => hold i = true → S w) oi v a → (hold i = true → S w) →
      wpAnyS P md ops Q S hold fuel (listed.setIfInBounds i true) (a.put oi.dst v) w → wpAnyS P md ops Q S hold (fuel + 1) listed a w := by
  intro fuel
  induction fuel with
  | zero =>
    intro listed a w _ hr hy hS H
    refine ⟨fun h => (by rw [h] at hr; cases hr), fun j hj => ?_⟩
    by_cases hji : j = i
    · subst hji; exact hy.wpOp hi hS ⟨hS, H⟩
    · have := ready_mono hj hji
      rw [H.1] at this
      cases this
  | succ fuel ih =>
    intro listed a w hfree hr hy hS H
    refine ⟨fun h => (by rw [h] at hr; cases hr), fun j hj => ?_⟩
    by_cases hji : j = i
    · subst hji; exact hy.wpOp hi hS ⟨hS, H⟩
    · have h1 := H.2 j (ready_mono hj hji)
      obtain ⟨hjun, oj, hoj, hall⟩ := mem_ready.1 hj
      have hnot : ∀ e ∈ oj.after, Region.binds md e = true → e.on ≠ i := fun e he hb heq => by
        have h2 := hall e he hb
        have h0 := (mem_ready.1 hr).1
        rw [heq] at h2
        rcases Nat.lt_or_ge i listed.size with h' | h'
        · simp [h'] at h0 h2; rw [h0] at h2; cases h2
        · simp [Array.getElem?_eq_none h'] at h2
      have hhold : hold i = true → hold j = true := fun hh => by
        cases hj' : hold j with
        | true => rfl
        | false =>
          obtain ⟨e, he, hb, heq⟩ := hedge hh j oj hj' hoj
          exact absurd heq (hnot e he hb)
      have h2 := wpOp_putIf hoj (hfree j oj hoj hji hjun hnot) (fun cs b => Region.noSelect_spec hsel i oi cs b hi) (fun cs b => Region.noSelect_spec hsel j oj cs b hoj) hQ hy h1
      have hfree' : ∀ k ok, ops[k]? = some ok → k ≠ i → (listed.setIfInBounds j true).getD k true = false →
          (∀ e ∈ ok.after, Region.binds md e = true → e.on ≠ i) → oi.apart ops ok = true := fun k ok hk hki hun hno => by
        refine hfree k ok hk hki ?_ hno
        by_cases hjk : j = k
        · subst hjk; exact hjun
        · rw [getD_set_ne true hjk] at hun; exact hun
      refine wpOp_mono (fun a' w' h3 => ⟨h3.2.1, ih (listed.setIfInBounds j true) a' w' hfree' (ready_mono hr (Ne.symm hji)) h3.1 (fun hh => h3.2.1 (hhold hh)) ?_⟩) h2
      rw [Array.setIfInBounds_comm _ _ hji]
      exact h3.2.2

/-- Every operation that 'hold' does not name waits straight for i. -/
def edgeB (md : Region.Mode) (ops : Array Oper) (hold : Nat → Bool) (i : Nat) : Bool :=
  (List.range ops.size).all fun j => hold j || match ops[j]? with
    | some oj => oj.after.any fun e => Region.binds md e && e.on == i
    | none => true
theorem edgeB_spec {i : Nat} (h : edgeB md ops hold i = true) (j : Nat) (oj : Oper) (hj : hold j = false) (hoj : ops[j]? = some oj) : ∃ e ∈ oj.after, Region.binds md e = true ∧ e.on = i := by
  have hlt : j < ops.size := (Array.getElem?_eq_some_iff.1 hoj).1
  have := List.all_eq_true.1 h j (List.mem_range.2 hlt)
  rw [hj, hoj] at this
  simp only [Bool.false_or] at this
  obtain ⟨e, he, hb⟩ := Array.any_eq_true'.1 this
  simp only [Bool.and_eq_true, beq_iff_eq] at hb
  exact ⟨e, he, hb.1, hb.2⟩

/-- Which operations an order holds: (i, loud, held). -/
def holdOf (ord : List (Nat × Bool × Bool)) (j : Nat) : Bool := ord.any fun x => x.1 == j && x.2.2

/-- The check: (i, false, _): operation i may be taken first, wherever else it might come up; (i, true, _): operation i alone may come up. -/
def ordB (md : Region.Mode) (ops : Array Oper) (hold : Nat → Bool) : List (Nat × Bool × Bool) → Array Bool → Bool
  | [], listed => (Region.ready md ops listed).isEmpty
  | (i, false, k) :: r, listed => (Region.ready md ops listed).contains i && Region.free md ops listed i && (hold i == k) && (!k || edgeB md ops hold i) && ordB md ops hold r (listed.setIfInBounds i true)
  | (i, true, k) :: r, listed => (Region.ready md ops listed == [i]) && (hold i == k) && ordB md ops hold r (listed.setIfInBounds i true)

/-- What is to be shown, in that order. -/
def wpOrd (P : Program) (ops : Array Oper) (Q : Exit → Act → World → Prop) (S : World → Prop) : List (Nat × Bool × Bool) → Act → World → Prop
  | [], a, w => Q .normal a w
  | (i, false, k) :: r, a, w => ∃ o v, ops[i]? = some o ∧ YieldsIf P ops (fun w => k = true → S w) o v a ∧ (∀ c a' w', Q (.panic c) (a'.put o.dst v) w' → Q (.panic c) a' w') ∧ (k = true → S w) ∧ wpOrd P ops Q S r (a.put o.dst v) w
  | (i, true, k) :: r, a, w => ∃ o, ops[i]? = some o ∧ ∀ K' : Act → World → Prop, (∀ a w, (k = true → S w) → wpOrd P ops Q S r a w → K' a w) →
      if Region.wanted o (yielded ops a.tmps) = true then Oper.wp P o a w K' Q else K' (a.put o.dst undef) w

theorem wpAnyS_of_ord (hsel : Region.noSelect ops = true) : ∀ (ord : List (Nat × Bool × Bool)) (listed : Array Bool) (fuel : Nat) (a : Act) (w : World), ord.length ≤ fuel → ordB md ops hold ord listed = true →
    wpOrd P ops Q S ord a w → wpAnyS P md ops Q S hold fuel listed a w
  | [], listed, fuel, a, w, _, hB, h => wpAnyS_done (by simpa [ordB] using hB) h fuel
  | (i, false, k) :: r, listed, 0, a, w, hf, _, _ => by simp at hf
  | (i, true, k) :: r, listed, 0, a, w, hf, _, _ => by simp at hf
  | (i, false, k) :: r, listed, fuel + 1, a, w, hf, hB, h => by
    simp only [ordB, Bool.and_eq_true, beq_iff_eq] at hB
    obtain ⟨⟨⟨⟨h1, h2⟩, h3⟩, h4⟩, h5⟩ := hB
    subst h3
    obtain ⟨o, v, ho, hy, hq, hs, hr⟩ := h
    refine wpAnyS_first ho hsel hq (fun hh => edgeB_spec (by rw [hh] at h4; simpa using h4)) fuel listed a w (Region.free_spec ho h2) (by simpa using h1) hy hs (wpAnyS_of_ord hsel r _ fuel _ w (by simpa using hf) h5 hr)
  | (i, true, k) :: r, listed, fuel + 1, a, w, hf, hB, h => by
    simp only [ordB, Bool.and_eq_true, beq_iff_eq] at hB
    obtain ⟨⟨h1, h2⟩, h3⟩ := hB
    subst h2
    obtain ⟨o, ho, hr⟩ := h
    refine ⟨fun h0 => (by rw [h1] at h0; cases h0), fun j hj => ?_⟩
    rw [h1, List.mem_singleton] at hj
    subst hj
    exact wpOp_step ho (fun K' hK => hr K' fun a' w' hS' hW => hK a' w' ⟨hS', wpAnyS_of_ord hsel r _ fuel a' w' (by simpa using hf) h3 hW⟩)

theorem wp_region_ord {id : Nat} {a : Act} {w : World} (ord : List (Nat × Bool × Bool)) (S : World → Prop) (hm : P.follows .mixedOrders = true) (hsel : Region.noSelect ops = true) (hl : ord.length ≤ ops.size)
    (hB : ordB .any ops (holdOf ord) ord (Array.replicate ops.size false) = true) (h : wpOrd P ops (NoPanic Q) S ord a w.drew) : (Code.region id ops true).wp P Q a w :=
  wp_region_noPanic <| wp_region_any hm (wpAny_of_S _ _ _ _ (wpAnyS_of_ord (hold := holdOf ord) hsel ord _ _ a _ hl hB h))

theorem O_nil {a : Act} {w : World} (h : Q .normal a w) : wpOrd P ops (NoPanic Q) S [] a w := h
/-- Operation i of the region is op, writes d, and bears no guard. -/
def OpAt (ops : Array Oper) (i : Nat) (op : Op) (d : Option Tmp) : Prop := (ops[i]?).map (fun o => (o.op, o.dst, o.guard)) = some (op, d, none)
theorem OpAt.get {i : Nat} {op : Op} {d : Option Tmp} (h : OpAt ops i op d) : ∃ o, ops[i]? = some o ∧ o.op = op ∧ o.dst = d ∧ o.guard = none := by
  unfold OpAt at h
  cases ho : ops[i]? with
  | none => rw [ho] at h; cases h
  | some o =>
    rw [ho] at h
    simp only [Option.map_some, Option.some.injEq, Prod.mk.injEq] at h
    exact ⟨o, rfl, h.1, h.2.1, h.2.2⟩
theorem O_val {i : Nat} {r : List (Nat × Bool × Bool)} {a : Act} {w : World} (op : Op) (d : Option Tmp) (v : Value) (h : OpAt ops i op d) (hQ : ∀ c a' w', Q (.panic c) (a'.put d v) w' → Q (.panic c) a' w') (hS : S w)
    (hy : ∀ w o, S w → o.op = op → (execOp a.eval o).run P w = .ok (.value v) w) (hn : wpOrd P ops Q S r (a.put d v) w) : wpOrd P ops Q S ((i, false, true) :: r) a w := by
  obtain ⟨o, ho, h1, rfl, h3⟩ := h.get
  exact ⟨o, v, ho, .inl ⟨by simp [Region.wanted, h3], fun w hS => hy w o (hS rfl) h1⟩, hQ, fun _ => hS, hn⟩
theorem O_free {i : Nat} {r : List (Nat × Bool × Bool)} {a : Act} {w : World} (op : Op) (d : Option Tmp) (v : Value) (h : OpAt ops i op d) (hQ : ∀ c a' w', Q (.panic c) (a'.put d v) w' → Q (.panic c) a' w')
    (hy : ∀ w o, o.op = op → (execOp a.eval o).run P w = .ok (.value v) w) (hn : wpOrd P ops Q S r (a.put d v) w) : wpOrd P ops Q S ((i, false, false) :: r) a w := by
  obtain ⟨o, ho, h1, rfl, h3⟩ := h.get
  exact ⟨o, v, ho, .inl ⟨by simp [Region.wanted, h3], fun w _ => hy w o h1⟩, hQ, (fun h => by cases h), hn⟩
theorem O_loud {i : Nat} {r : List (Nat × Bool × Bool)} {a : Act} {w : World} (op : Op) (d : Option Tmp) (h : OpAt ops i op d)
    (hn : ∀ K' : Act → World → Prop, (∀ w, ∀ v, S w → wpOrd P ops Q S r (a.put d v) w → K' (a.put d v) w) → ∀ o : Oper, o.op = op → o.dst = d → Oper.wp P o a w K' Q) : wpOrd P ops Q S ((i, true, true) :: r) a w := by
  obtain ⟨o, ho, h1, h2, h3⟩ := h.get
  refine ⟨o, ho, fun K' hK => ?_⟩
  rw [if_pos (by simp [Region.wanted, h3])]
  exact hn K' (fun w v hS hW => hK _ w (fun _ => hS) hW) o h1 h2
theorem O_last {i : Nat} {r : List (Nat × Bool × Bool)} {a : Act} {w : World} (op : Op) (d : Option Tmp) (h : OpAt ops i op d)
    (hn : ∀ K' : Act → World → Prop, (∀ w, ∀ v, wpOrd P ops Q S r (a.put d v) w → K' (a.put d v) w) → ∀ o : Oper, o.op = op → o.dst = d → Oper.wp P o a w K' Q) : wpOrd P ops Q S ((i, true, false) :: r) a w := by
  obtain ⟨o, ho, h1, h2, h3⟩ := h.get
  refine ⟨o, ho, fun K' hK => ?_⟩
  rw [if_pos (by simp [Region.wanted, h3])]
  exact hn K' (fun w v hW => hK _ w (fun h => by cases h) hW) o h1 h2

section
variable {a : Act} {o : Oper} {w : World}
theorem x_move {x : Operand} (ho : o.op = .move x) : (execOp a.eval o).run P w = .ok (.value (a.eval x)) w := by unfold execOp; simp only [ho, Sem.run_pure]
theorem x_fieldAddr {t : TypeId} {x : Operand} {f : Nat} {p v : Value} (ho : o.op = .fieldAddr t x f) (hx : a.eval x = p) (h : (Instr.fieldAt t p f).run P w = .ok v w) : (execOp a.eval o).run P w = .ok (.value v) w := by
  unfold execOp; simp only [ho, hx, Sem.run_bind, h, Result.andThen_ok, Sem.run_pure]
theorem x_indexAddr {t : TypeId} {x y : Operand} {p u v : Value} (ho : o.op = .indexAddr t x y) (hx : a.eval x = p) (hy : a.eval y = u) (h : (Instr.indexAt t p u).run P w = .ok v w) : (execOp a.eval o).run P w = .ok (.value v) w := by
  unfold execOp; simp only [ho, hx, hy, Sem.run_bind, h, Result.andThen_ok, Sem.run_pure]
theorem x_sliceAt {t : TypeId} {x hi : Operand} {p h v : Value} (ho : o.op = .slice t x none (some hi) none) (hx : a.eval x = p) (hh : a.eval hi = h) (hr : (Instr.sliceAt t p none (some h) none).run P w = .ok v w) : (execOp a.eval o).run P w = .ok (.value v) w := by
  unfold execOp; simp only [ho, hx, hh, Option.map_none, Option.map_some, Sem.run_bind, hr, Result.andThen_ok, Sem.run_pure]
theorem x_nilCheck {x : Operand} {ad : Addr} (ho : o.op = .nilCheck x) (hx : a.eval x = .pointer (some ad)) : (execOp a.eval o).run P w = .ok (.value (.pointer (some ad))) w := by unfold execOp; simp only [ho, hx, Sem.run_pure]
theorem x_load_range {ty : TypeId} {x : Operand} (ho : o.op = .load ty x) {g off : Nat} {cs : List Value} (hx : a.eval x = .pointer (some ⟨g, off, none⟩)) (hc : w.rangeAt g off cs) {d : TypeDesc} (hu : P.underlying ty = some d) (hd : d.isRow = true)
    (hi : (P.info? ty).map (·.size) = some cs.length) : (execOp a.eval o).run P w = .ok (.value (.agg cs.toArray)) w := by
  have h1 := run_loadAt_mid (P := P) w g off ty cs d hc hu hd hi
  unfold execOp; simp only [ho, hx, Sem.run_bind, h1, Result.andThen_ok, Sem.run_pure]
theorem x_load1 {ty : TypeId} {x : Operand} {ad : Addr} {v : Value} (ho : o.op = .load ty x) (hx : a.eval x = .pointer (some ad)) (hc : w.cell? ad = some v) {d : TypeDesc} (hu : P.underlying ty = some d) (hd : d.isRow = false) :
    (execOp a.eval o).run P w = .ok (.value v) w := by
  have hagg : (isAgg ty).run P w = .ok false w := by
    unfold isAgg
    rw [Sem.run_bind, run_underlying hu w]
    cases d <;> simp_all
  have hl : (loadVar ty ad).run P w = .ok v w := by
    simp [loadVar, Sem.run_bind, hagg, Go.load, Sem.run, hc]
  unfold execOp; simp only [ho, hx, Instr.loadAt, Instr.sureAddr, Sem.run_bind, Sem.run_pure, Result.andThen_ok, hl]
theorem x_store1 {ty : TypeId} {x y : Operand} {ad : Addr} {u v : Value} (ho : o.op = .store ty x y) (hx : a.eval x = .pointer (some ad)) (hy : a.eval y = v) (hc : w.cell? ad = some u) (hf : w.frozen? ad = false) (h1 : v.cells = #[v]) (h2 : v.oneCell' = true)
    (hi : (P.info? ty).map (·.size) = some 1) (hadd : ad.add 0 = ad) : (execOp a.eval o).run P w = .ok .skip (w.setCell ad v) := by
  cases hq : P.info? ty with
  | none => simp [hq] at hi
  | some i =>
    have hs : i.size = 1 := by simpa [hq] using hi
    have hst : (store ad v).run P w = .ok () (w.setCell ad v) := by rw [run_store P w _ v _ h2, hc]; simp [hf]
    have hl : (storeVar ty ad v).run P w = .ok () (w.setCell ad v) := by
      simp [storeVar, sizeOf, typeInfo, hq, hs, h1, storeCells, hadd, hst, Result.andThen]
    unfold execOp; simp only [ho, hx, hy, Instr.storeAt, Instr.sureAddr, Sem.run_bind, Sem.run_pure, Result.andThen_ok, hl]
end
end

/-- Bytes as a string. -/
def strOf (s : List UInt8) : ByteArray := ⟨s.toArray⟩
theorem strOfNums_bytes (s : List UInt8) : strOfNums (s.map fun c => (c.toNat : Int)) = strOf s := by
  unfold strOfNums strOf
  congr 2
  rw [List.map_map]
  conv => rhs; rw [← List.map_id s]
  apply List.map_congr_left
  intro c _
  simp
theorem bytes_whole (s : List UInt8) : ((byteCells s).drop 0).take s.length = byteCells s := by rw [List.drop_zero, ← byteCells_length s, List.take_length]
/-- A piece of a block of bytes is made a string. -/
theorem run_bytes_str {P : Program} {w : World} {g off cap : Nat} {t : TypeId} {L : List Value} {s : List UInt8} (hb : Blk w g t L.toArray) (hs : (L.drop off).take s.length = byteCells s) {src dst e : TypeId} (hsrc : P.underlying src = some (.slice e)) (he : P.underlying e = some (.int .u8)) (hd : P.underlying dst = some .string) :
    (convert src dst (.slice (some ⟨g, off, none⟩) s.length cap)).run P w = .ok (.string (strOf s)) w := by
  have := run_convert_bytes_arg (P := P) w src e hsrc he g off s.length cap (s.map fun c => (c.toNat : Int)) (by simp) (fun i hi => by
    have h1 := hb.range off s.length
    rw [hs] at h1
    have h2 := h1 i (.int .u8 (s[i].toNat : Int)) (by simp [byteCells, hi])
    rw [h2]
    simp [List.getD, hi]) dst hd
  rwa [strOfNums_bytes] at this
end Go.Proofs.Ytmhmfcphjfgppaa
