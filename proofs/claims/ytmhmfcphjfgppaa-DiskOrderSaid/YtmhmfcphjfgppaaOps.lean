/- Words of mine: single operations over blocks that are known whole, at the list of a plain region (L_..) and at a step of a region that draws (S_..). No program's number stands here. -/
import Derived.Test.YtmhmfcphjfgppaaSeg
namespace Go.Proofs.Ytmhmfcphjfgppaa
open Go.RowKit
open Go.Maps (Keyed)

section
variable {P : Program} {w w' : World} {o : Oper} {a : Act} {K : Act → World → Prop} {Q : Exit → Act → World → Prop} {ops : Array Oper} {rest : List Oper} {E : Prop} {v : Value}

theorem wp_val (hrun : (execOp a.eval o).run P w = .ok (.value v) w') (h : K (a.put o.dst v) w') : o.wp P a w K Q := by
  unfold Oper.wp; rw [hrun]; exact h
theorem wp_skp (hrun : (execOp a.eval o).run P w = .ok .skip w') (h : K (a.put o.dst undef) w') : o.wp P a w K Q := by
  unfold Oper.wp; rw [hrun]; exact h
theorem L_of (hgd : o.guard = none) (h : ∀ K : Act → World → Prop, (∀ a w, wpList P ops Q rest a w → K a w) → o.wp P a w K Q) : wpList P ops Q (o :: rest) a w := wpList_plain hgd h
theorem S_of (hgd : o.guard = none) (h : o.wp P a w K Q) : if Region.wanted o (yielded ops a.tmps) = true then Oper.wp P o a w K Q else E := by
  rw [if_pos (by simp [Region.wanted, hgd])]; exact h

theorem x_build {t : TypeId} {l : List (Nat × Operand)} (ho : o.op = .build t l.toArray) {vals : List (Nat × Value)} (hv : l.map (fun p => (p.1, a.eval p.2)) = vals) (h : (Instr.build t vals.toArray).run P w = .ok v w') :
    (execOp a.eval o).run P w = .ok (.value v) w' := by
  have e : (Array.map (fun (p : Nat × Operand) => (p.1, a.eval p.2)) l.toArray) = vals.toArray := by rw [List.map_toArray, hv]
  unfold execOp; simp only [ho, Sem.run_bind, e, h, Result.andThen_ok, Sem.run_pure]
theorem L_build (hgd : o.guard = none) (t : TypeId) (l : List (Nat × Operand)) (ho : o.op = .build t l.toArray) (vals : List (Nat × Value)) (hv : l.map (fun p => (p.1, a.eval p.2)) = vals) (h0 : (Instr.build t vals.toArray).run P w = .ok v w')
    (h : wpList P ops Q rest (a.put o.dst v) w') : wpList P ops Q (o :: rest) a w :=
  L_of hgd fun _ hK => wp_val (x_build ho hv h0) (hK _ _ h)

theorem run_alloc_z {e : TypeId} {z : Value} (hz : (P.info? e).map (·.zero) = some (some z)) : (Instr.alloc e true (.tuple #[])).run P w = .ok (.pointer (some ⟨w.heap.size, 0, none⟩)) (w.alloc (.cells z.cells e)) := by
  cases hq : P.info? e with
  | none => simp [hq] at hz
  | some i =>
    have hz' : i.zero = some z := by simpa [hq] using hz
    simp [Instr.alloc, zeroValue, typeInfo, hq, hz', newVar, newRow, Result.andThen]
theorem x_alloc {e : TypeId} (ho : o.op = .alloc e) {z : Value} (hz : (P.info? e).map (·.zero) = some (some z)) : (execOp a.eval o).run P w = .ok (.value (.pointer (some ⟨w.heap.size, 0, none⟩))) (w.alloc (.cells z.cells e)) := by
  unfold execOp; simp only [ho, Sem.run_bind, run_alloc_z hz, Result.andThen_ok, Sem.run_pure]
theorem L_alloc (hgd : o.guard = none) (e : TypeId) (ho : o.op = .alloc e) {cs : List Value} (hz : (P.info? e).map (·.zero) = some (some (.agg cs.toArray)))
    (h : wpList P ops Q rest (a.put o.dst (.pointer (some ⟨w.heap.size, 0, none⟩))) (w.alloc (.cells cs.toArray e))) : wpList P ops Q (o :: rest) a w :=
  L_of hgd fun _ hK => wp_val (x_alloc ho hz) (hK _ _ h)
theorem S_alloc (hgd : o.guard = none) (e : TypeId) (ho : o.op = .alloc e) {cs : List Value} (hz : (P.info? e).map (·.zero) = some (some (.agg cs.toArray)))
    (h : K (a.put o.dst (.pointer (some ⟨w.heap.size, 0, none⟩))) (w.alloc (.cells cs.toArray e))) : if Region.wanted o (yielded ops a.tmps) = true then Oper.wp P o a w K Q else E :=
  S_of hgd (wp_val (x_alloc ho hz) h)

theorem x_load {ty : TypeId} {x : Operand} (ho : o.op = .load ty x) {g off n : Nat} {t : TypeId} {L : List Value} (hx : a.eval x = .pointer (some ⟨g, off, none⟩)) (hb : Blk w g t L.toArray)
    {d : TypeDesc} (hu : P.underlying ty = some d) (hd : d.isRow = true) (hi : (P.info? ty).map (·.size) = some n) (hl : off + n ≤ L.length) :
    (execOp a.eval o).run P w = .ok (.value (.agg ((L.drop off).take n).toArray)) w := by
  have h1 := run_loadAt_mid (P := P) w g off ty ((L.drop off).take n) d (hb.range off n) hu hd (by rw [hi, List.length_take, List.length_drop]; congr 1; omega)
  unfold execOp; simp only [ho, hx, Sem.run_bind, h1, Result.andThen_ok, Sem.run_pure]
theorem L_load (hgd : o.guard = none) (ty : TypeId) (x : Operand) (ho : o.op = .load ty x) (g off n : Nat) (t : TypeId) (L : List Value) (hx : a.eval x = .pointer (some ⟨g, off, none⟩)) (hb : Blk w g t L.toArray)
    {d : TypeDesc} (hu : P.underlying ty = some d) (hd : d.isRow = true) (hi : (P.info? ty).map (·.size) = some n) (hl : off + n ≤ L.length)
    (h : wpList P ops Q rest (a.put o.dst (.agg ((L.drop off).take n).toArray)) w) : wpList P ops Q (o :: rest) a w :=
  L_of hgd fun _ hK => wp_val (x_load ho hx hb hu hd hi hl) (hK _ _ h)
theorem L_load_as (hgd : o.guard = none) (ty : TypeId) (x : Operand) (ho : o.op = .load ty x) (g off n : Nat) (t : TypeId) (L cs : List Value) (hx : a.eval x = .pointer (some ⟨g, off, none⟩)) (hb : Blk w g t L.toArray)
    {d : TypeDesc} (hu : P.underlying ty = some d) (hd : d.isRow = true) (hi : (P.info? ty).map (·.size) = some n) (hl : off + n ≤ L.length) (hcs : (L.drop off).take n = cs)
    (h : wpList P ops Q rest (a.put o.dst (.agg cs.toArray)) w) : wpList P ops Q (o :: rest) a w := by
  subst hcs
  exact L_of hgd fun _ hK => wp_val (x_load ho hx hb hu hd hi hl) (hK _ _ h)
theorem S_load (hgd : o.guard = none) (ty : TypeId) (x : Operand) (ho : o.op = .load ty x) (g off n : Nat) (t : TypeId) (L : List Value) (hx : a.eval x = .pointer (some ⟨g, off, none⟩)) (hb : Blk w g t L.toArray)
    {d : TypeDesc} (hu : P.underlying ty = some d) (hd : d.isRow = true) (hi : (P.info? ty).map (·.size) = some n) (hl : off + n ≤ L.length)
    (h : K (a.put o.dst (.agg ((L.drop off).take n).toArray)) w) : if Region.wanted o (yielded ops a.tmps) = true then Oper.wp P o a w K Q else E :=
  S_of hgd (wp_val (x_load ho hx hb hu hd hi hl) h)

theorem x_store {ty : TypeId} {x y : Operand} (ho : o.op = .store ty x y) {g off : Nat} {t : TypeId} {L cs : List Value} (hx : a.eval x = .pointer (some ⟨g, off, none⟩)) (hy : a.eval y = .agg cs.toArray) (hb : Blk w g t L.toArray)
    (hi : (P.info? ty).map (·.size) = some cs.length) (hl : off + cs.length ≤ L.length) (h1 : ∀ v ∈ cs, v.oneCell' = true) :
    (execOp a.eval o).run P w = .ok .skip (w.setCells g off cs) := by
  have h1 := run_storeAt_mid (P := P) w g off ty cs.toArray (by simpa using hb.there hl) (by simpa using hi) (all_oneCell_toArray h1)
  unfold execOp; simp only [ho, hx, hy, Sem.run_bind, h1, Result.andThen_ok, Sem.run_pure]
theorem L_store (hgd : o.guard = none) (ty : TypeId) (x y : Operand) (ho : o.op = .store ty x y) (g off : Nat) (t : TypeId) (L cs : List Value) (hx : a.eval x = .pointer (some ⟨g, off, none⟩)) (hy : a.eval y = .agg cs.toArray) (hb : Blk w g t L.toArray)
    (hi : (P.info? ty).map (·.size) = some cs.length) (hl : off + cs.length ≤ L.length) (h1 : ∀ v ∈ cs, v.oneCell' = true)
    (h : wpList P ops Q rest (a.put o.dst undef) (w.setCells g off cs)) : wpList P ops Q (o :: rest) a w :=
  L_of hgd fun _ hK => wp_skp (x_store ho hx hy hb hi hl h1) (hK _ _ h)
theorem S_store (hgd : o.guard = none) (ty : TypeId) (x y : Operand) (ho : o.op = .store ty x y) (g off : Nat) (t : TypeId) (L cs : List Value) (hx : a.eval x = .pointer (some ⟨g, off, none⟩)) (hy : a.eval y = .agg cs.toArray) (hb : Blk w g t L.toArray)
    (hi : (P.info? ty).map (·.size) = some cs.length) (hl : off + cs.length ≤ L.length) (h1 : ∀ v ∈ cs, v.oneCell' = true)
    (h : K (a.put o.dst undef) (w.setCells g off cs)) : if Region.wanted o (yielded ops a.tmps) = true then Oper.wp P o a w K Q else E :=
  S_of hgd (wp_skp (x_store ho hx hy hb hi hl h1) h)

theorem x_call {b : Builtin} {args : Array Operand} {ats : Array TypeId} (ho : o.op = .call { callee := .builtin b, args := args, argTypes := ats })
    (h : ∀ cs, (builtin b ats o.type cs (args.map a.eval)).run P w = .ok (.value v) w') : (execOp a.eval o).run P w = .ok (.value v) w' := by
  unfold execOp; simp only [ho, resolve, invoke, Sem.run_bind, Sem.run_pure, Result.andThen_ok, h]

/-- 'copy(dst, s)', s a string that fits. -/
theorem x_copy_str {d s : Operand} {dT sT : TypeId} (ho : o.op = .call { callee := .builtin .copy, args := #[d, s], argTypes := #[dT, sT] }) {elem : TypeId} (hu : P.underlying dT = some (.slice elem)) (hsz : (P.info? elem).map (·.size) = some 1)
    {g off dLen dCap : Nat} (hd : a.eval d = .slice (some ⟨g, off, none⟩) dLen dCap) {str : ByteArray} (hs : a.eval s = .string str) {t : TypeId} {L : List Value} (hb : Blk w g t L.toArray)
    (hle : str.size ≤ dLen) (hl : off + str.size ≤ L.length) : (execOp a.eval o).run P w = .ok (.value (goInt str.size)) (w.setCells g off (byteCells str.data.toList)) := by
  have hz : ∀ w, (Go.sizeOf elem).run P w = .ok 1 w := fun w => by
    cases hq : P.info? elem with
    | none => simp [hq] at hsz
    | some i =>
      have hs : i.size = 1 := by simpa [hq] using hsz
      simp [sizeOf, typeInfo, hq, hs, Result.andThen]
  have hth := hb.there (o := off) (n := str.size) hl
  have hrun := Go.run_copy_string (P := P) w dT sT o.type elem g off dLen dCap str hu hz hle (fun j hj => (hth j hj).1) (fun j hj => (hth j hj).2)
  refine x_call ho fun _ => ?_
  simp only [builtin, List.map_toArray, List.map_cons, List.map_nil, hd, hs, Sem.run_bind, hrun, Result.andThen_ok, Sem.run_pure]
  rfl
theorem L_copy_str (hgd : o.guard = none) (d s : Operand) (dT sT : TypeId) (ho : o.op = .call { callee := .builtin .copy, args := #[d, s], argTypes := #[dT, sT] }) {elem : TypeId} (hu : P.underlying dT = some (.slice elem)) (hsz : (P.info? elem).map (·.size) = some 1)
    (g off dLen dCap : Nat) (hd : a.eval d = .slice (some ⟨g, off, none⟩) dLen dCap) (str : ByteArray) (hs : a.eval s = .string str) (t : TypeId) (L : List Value) (hb : Blk w g t L.toArray)
    (hle : str.size ≤ dLen) (hl : off + str.size ≤ L.length) (h : wpList P ops Q rest (a.put o.dst (goInt str.size)) (w.setCells g off (byteCells str.data.toList))) : wpList P ops Q (o :: rest) a w :=
  L_of hgd fun _ hK => wp_val (x_copy_str ho hu hsz hd hs hb hle hl) (hK _ _ h)

/-- 'copy(dst, src)', both pieces of known blocks, of one length. -/
theorem x_copy_seg {d s : Operand} {dT sT : TypeId} (ho : o.op = .call { callee := .builtin .copy, args := #[d, s], argTypes := #[dT, sT] }) {elem : TypeId} (hu : P.underlying dT = some (.slice elem)) (hsz : (P.info? elem).map (·.size) = some 1)
    {g off dCap g2 off2 sCap m : Nat} (hd : a.eval d = .slice (some ⟨g, off, none⟩) m dCap) (hs : a.eval s = .slice (some ⟨g2, off2, none⟩) m sCap) {t : TypeId} {L cs : List Value} (hb : Blk w g t L.toArray)
    (hc : w.rangeAt g2 off2 cs) (hm : cs.length = m) (hl : off + m ≤ L.length) (h1 : ∀ v ∈ cs, v.oneCell' = true) : (execOp a.eval o).run P w = .ok (.value (goInt m)) (w.setRow g (splice L off cs).toArray) := by
  have hrun := run_copy_row (P := P) w dT sT o.type elem g off m dCap ⟨g2, off2, none⟩ m sCap L.toArray t cs hu hsz hb (by rw [hm]; exact (Nat.min_self m).symm) (fun j v hv => by rw [Addr.add_mid]; exact hc j v hv) (by rw [hm]; simpa using hl) h1
  refine x_call ho fun _ => ?_
  simp only [builtin, List.map_toArray, List.map_cons, List.map_nil, hd, hs, Sem.run_bind, hrun, Result.andThen_ok, Sem.run_pure]
  subst hm
  simp [splice]
theorem Blk.setRow {g : Nat} {t : TypeId} {cs cs' : Array Value} (h : Blk w g t cs) : Blk (w.setRow g cs') g t cs' := setRow_heap w g cs cs' t (0, 0) h
theorem Blk.setRow_far {g g' : Nat} {t : TypeId} {cs cs' : Array Value} (h : Blk w g t cs) (hne : g ≠ g') : Blk (w.setRow g' cs') g t cs := (setRow_other w g' g cs' hne).trans h
/-- A map's element is stored. -/
theorem x_put {t : TypeId} {m k x : Operand} (ho : o.op = .mapUpdate t m k x) {mv kv xv : Value} (hm : a.eval m = mv) (hk : a.eval k = kv) (hx : a.eval x = xv) (h : (Instr.mapUpdate t mv kv xv).run P w = .ok () w') :
    (execOp a.eval o).run P w = .ok .skip w' := by
  unfold execOp; simp only [ho, hm, hk, hx, Sem.run_bind, h, Result.andThen_ok, Sem.run_pure]
theorem L_put (hgd : o.guard = none) (t : TypeId) (m k x : Operand) (ho : o.op = .mapUpdate t m k x) (kt e : TypeId) (b : Nat) (f : Value → Option Value) (kv xv : Value) (hm : a.eval m = .map (some b)) (hk : a.eval k = kv) (hx : a.eval x = xv)
    (hf : MapFn P kt w b f) (Ky : Keyed P kt) (ht : P.underlying t = some (.map kt e)) {l : Lit} (hkl : keyOf P kt kv = some l)
    (h : ∀ w', MapFn P kt w' b (putFn f kv xv) → w.grownBy w' (some b) → wpList P ops Q rest (a.put o.dst undef) w') : wpList P ops Q (o :: rest) a w := by
  obtain ⟨w', hrun, h1, h2⟩ := hf.put Ky ht (v := xv) hkl
  exact L_of hgd fun _ hK => wp_skp (x_put ho hm hk hx hrun) (hK _ _ (h w' h1 h2))
/-- A map is asked. -/
theorem x_look {t : TypeId} {m k : Operand} {c : Bool} (ho : o.op = .lookup t m k c) {mv kv : Value} (hm : a.eval m = mv) (hk : a.eval k = kv) (h : (Instr.lookup t mv kv c).run P w = .ok v w') :
    (execOp a.eval o).run P w = .ok (.value v) w' := by
  unfold execOp; simp only [ho, hm, hk, Sem.run_bind, h, Result.andThen_ok, Sem.run_pure]

theorem foldl_fill : ∀ (l : List (Value × Nat)) (c : Array Value), (l.foldl (fun cs x => cs.setIfInBounds (0 + x.2) x.1) c).size = c.size
  | [], _ => rfl
  | x :: l, c => by rw [List.foldl_cons, foldl_fill l]; simp
theorem fill_whole : ∀ (l : List Value) (k : Nat) (pre : List Value) (c : List Value), pre.length = k → c.length = l.length →
    ((l.zipIdx k).foldl (fun (cs : Array Value) (x : Value × Nat) => cs.setIfInBounds (0 + x.2) x.1) (pre ++ c).toArray) = (pre ++ l).toArray
  | [], k, pre, c, _, hc => by
    have : c = [] := List.eq_nil_of_length_eq_zero (by simpa using hc)
    simp [this]
  | v :: l, k, pre, c, hk, hc => by
    obtain ⟨u, c', rfl⟩ : ∃ u c', c = u :: c' := by
      cases c with
      | nil => simp at hc
      | cons u c' => exact ⟨u, c', rfl⟩
    rw [List.zipIdx_cons, List.foldl_cons]
    have e : ((pre ++ u :: c').toArray).setIfInBounds (0 + k) v = ((pre ++ [v]) ++ c').toArray := by
      rw [List.setIfInBounds_toArray, List.set_append_right _ _ (by omega)]
      simp [hk]
    simp only
    rw [e, fill_whole l (k + 1) (pre ++ [v]) c' (by simp [hk]) (by simpa using hc)]
    simp

/-- A slice of one element is made. -/
theorem run_buildSlice1 {t e : TypeId} (ht : P.underlying t = some (.slice e)) {i : TypeInfo} (hi : P.info? e = some i) {z : Value} (hz : i.zero = some z) {cs : List Value} (hs : i.size = cs.length) (hpos : 0 < cs.length) (hle : cs.length ≤ 16777216) :
    (Instr.buildSlice t 1 #[(0, .agg cs.toArray)]).run P w = .ok (.slice (some ⟨w.heap.size, 0, none⟩) 1 1) (w.alloc (.cells cs.toArray e)) := by
  have n1 : ¬ 16777216 < cs.length := by omega
  have n2 : ¬ cs = [] := by rintro rfl; simp at hpos
  have hf : ∀ Z : List Value, Z.length = cs.length → Instr.fill (fun i => some (i * cs.length, cs.length)) Z.toArray [(0, .agg cs.toArray)] = some cs.toArray := by
    intro Z hZ
    have := fill_whole cs 0 [] Z rfl hZ
    simp only [List.nil_append] at this
    simp only [Instr.fill, Value.cells, Nat.zero_mul, Nat.zero_add, List.size_toArray, hZ, ne_eq, not_true_eq_false, Nat.lt_irrefl, decide_false, Bool.or_self, Bool.false_eq_true, if_false, decide_true]
    refine Eq.trans ?_ (congrArg some this)
    congr 1
    simp
  have hf' := hf (List.map (z.cells[· % z.cells.size]!) (List.range cs.length)) (by simp)
  have e1 : (Array.range cs.length).map (z.cells[· % z.cells.size]!) = (List.map (z.cells[· % z.cells.size]!) (List.range cs.length)).toArray := by
    apply Array.ext <;> simp
  simp only [Instr.buildSlice, Sem.run_bind, run_underlying ht, Result.andThen_ok]
  simp [sizeOf, typeInfo, hi, hs, n1, n2, zeroValue, hz, e1, hf', newRow, Result.andThen]

theorem x_buildSlice1 {t e : TypeId} {y : Operand} (ho : o.op = .buildSlice t 1 #[(0, y)]) {cs : List Value} (hy : a.eval y = .agg cs.toArray) (ht : P.underlying t = some (.slice e)) {z : Value} {n b : Nat}
    (hi : (P.info? e).map (fun i => (i.zero, i.size, i.bytes)) = some (some z, n, b)) (hs : cs.length = n) (hpos : 0 < cs.length) (hle : cs.length ≤ 16777216) :
    (execOp a.eval o).run P w = .ok (.value (.slice (some ⟨w.heap.size, 0, none⟩) 1 1)) (w.alloc (.cells cs.toArray e)) := by
  obtain ⟨i0, h1, h2, h3, _⟩ := info_parts hi
  have e1 : (#[(0, y)] : Array (Nat × Operand)).map (fun (p : Nat × Operand) => (p.1, a.eval p.2)) = #[(0, .agg cs.toArray)] := by simp [hy]
  unfold execOp; simp only [ho, Sem.run_bind, e1, run_buildSlice1 (w := w) ht h1 h2 (h3.trans hs.symm) hpos hle, Result.andThen_ok, Sem.run_pure]
theorem S_buildSlice1 (hgd : o.guard = none) (t e : TypeId) (y : Operand) (ho : o.op = .buildSlice t 1 #[(0, y)]) (cs : List Value) (hy : a.eval y = .agg cs.toArray) (ht : P.underlying t = some (.slice e)) {z : Value} {n b : Nat}
    (hi : (P.info? e).map (fun i => (i.zero, i.size, i.bytes)) = some (some z, n, b)) (hs : cs.length = n) (hpos : 0 < cs.length) (hle : cs.length ≤ 16777216)
    (h : K (a.put o.dst (.slice (some ⟨w.heap.size, 0, none⟩) 1 1)) (w.alloc (.cells cs.toArray e))) : if Region.wanted o (yielded ops a.tmps) = true then Oper.wp P o a w K Q else E :=
  S_of hgd (wp_val (x_buildSlice1 ho hy ht hi hs hpos hle) h)
theorem L_buildSlice1 (hgd : o.guard = none) (t e : TypeId) (y : Operand) (ho : o.op = .buildSlice t 1 #[(0, y)]) (cs : List Value) (hy : a.eval y = .agg cs.toArray) (ht : P.underlying t = some (.slice e)) {z : Value} {n b : Nat}
    (hi : (P.info? e).map (fun i => (i.zero, i.size, i.bytes)) = some (some z, n, b)) (hs : cs.length = n) (hpos : 0 < cs.length) (hle : cs.length ≤ 16777216)
    (h : wpList P ops Q rest (a.put o.dst (.slice (some ⟨w.heap.size, 0, none⟩) 1 1)) (w.alloc (.cells cs.toArray e))) : wpList P ops Q (o :: rest) a w :=
  L_of hgd fun _ hK => wp_val (x_buildSlice1 ho hy ht hi hs hpos hle) (hK _ _ h)

/-- 'append(v, x)' of one element, that lies whole in a block. -/
theorem wp_append1 {s x : Operand} {t : TypeId} (ho : o.op = .call { callee := .builtin .append, args := #[s, x], argTypes := #[t, t] }) {e : TypeId} {z : Value} {size bytes : Nat} (ht : P.underlying t = some (.slice e))
    (hi : (P.info? e).map (fun i => (i.zero, i.size, i.bytes)) = some (some z, size, bytes)) (hzs : z.cells.size = size) (hsz : 0 < size) {v : Value} {n : Nat} {xs : List Value} (hs : a.eval s = v) (hown : w.ownsRow 0 e size v n xs)
    {g' c : Nat} {news : List Value} (hx : a.eval x = .slice (some ⟨g', 0, none⟩) 1 c) (hb : Blk w g' e news.toArray) (hl : news.length = size) (h1 : ∀ u ∈ news, u.oneCell' = true)
    (h63 : n + 1 ≤ maxLen) (hbytes : (n + 1) * bytes ≤ 140737488355328)
    (h : ∀ g cap w', w'.ownsRow 0 e size (.slice (some ⟨g, 0, none⟩) (n + 1) cap) (n + 1) (xs ++ news) → w.grownBy w' v.ownBlock → (v.ownBlock = some g ∨ g = w.heap.size) → g < w'.heap.size → K (a.put o.dst (.slice (some ⟨g, 0, none⟩) (n + 1) cap)) w') :
    o.wp P a w K Q := by
  obtain ⟨i0, h2, h3, h4, h5⟩ := info_parts hi
  refine wp_append_lies w s x t ho 0 e i0 z size bytes ht h2 h3 h4 h5 hzs hsz v n xs hs hown ⟨g', 0, none⟩ 1 c news hx (by omega) ?_ h1 (by omega) h63 hbytes (Nat.zero_le _) _ rfl h
  intro j u hu
  have : (⟨g', 0, none⟩ : Addr).add j = ⟨g', j, none⟩ := by rw [Addr.add_mid]; simp
  rw [this, hb.cell]
  simpa using hu
theorem S_append1 (hgd : o.guard = none) (s x : Operand) (t : TypeId) (ho : o.op = .call { callee := .builtin .append, args := #[s, x], argTypes := #[t, t] }) {e : TypeId} {z : Value} {size bytes : Nat} (ht : P.underlying t = some (.slice e))
    (hi : (P.info? e).map (fun i => (i.zero, i.size, i.bytes)) = some (some z, size, bytes)) (hzs : z.cells.size = size) (hsz : 0 < size) (v : Value) (n : Nat) (xs : List Value) (hs : a.eval s = v) (hown : w.ownsRow 0 e size v n xs)
    (g' c : Nat) (news : List Value) (hx : a.eval x = .slice (some ⟨g', 0, none⟩) 1 c) (hb : Blk w g' e news.toArray) (hl : news.length = size) (h1 : ∀ u ∈ news, u.oneCell' = true)
    (h63 : n + 1 ≤ maxLen) (hbytes : (n + 1) * bytes ≤ 140737488355328)
    (h : ∀ g cap w', w'.ownsRow 0 e size (.slice (some ⟨g, 0, none⟩) (n + 1) cap) (n + 1) (xs ++ news) → w.grownBy w' v.ownBlock → (v.ownBlock = some g ∨ g = w.heap.size) → g < w'.heap.size → K (a.put o.dst (.slice (some ⟨g, 0, none⟩) (n + 1) cap)) w') :
    if Region.wanted o (yielded ops a.tmps) = true then Oper.wp P o a w K Q else E :=
  S_of hgd (wp_append1 ho ht hi hzs hsz hs hown hx hb hl h1 h63 hbytes h)
theorem L_append1 (hgd : o.guard = none) (s x : Operand) (t : TypeId) (ho : o.op = .call { callee := .builtin .append, args := #[s, x], argTypes := #[t, t] }) {e : TypeId} {z : Value} {size bytes : Nat} (ht : P.underlying t = some (.slice e))
    (hi : (P.info? e).map (fun i => (i.zero, i.size, i.bytes)) = some (some z, size, bytes)) (hzs : z.cells.size = size) (hsz : 0 < size) (v : Value) (n : Nat) (xs : List Value) (hs : a.eval s = v) (hown : w.ownsRow 0 e size v n xs)
    (g' c : Nat) (news : List Value) (hx : a.eval x = .slice (some ⟨g', 0, none⟩) 1 c) (hb : Blk w g' e news.toArray) (hl : news.length = size) (h1 : ∀ u ∈ news, u.oneCell' = true)
    (h63 : n + 1 ≤ maxLen) (hbytes : (n + 1) * bytes ≤ 140737488355328)
    (h : ∀ g cap w', w'.ownsRow 0 e size (.slice (some ⟨g, 0, none⟩) (n + 1) cap) (n + 1) (xs ++ news) → w.grownBy w' v.ownBlock → (v.ownBlock = some g ∨ g = w.heap.size) → g < w'.heap.size → wpList P ops Q rest (a.put o.dst (.slice (some ⟨g, 0, none⟩) (n + 1) cap)) w') :
    wpList P ops Q (o :: rest) a w :=
  L_of hgd fun _ hK => wp_append1 ho ht hi hzs hsz hs hown hx hb hl h1 h63 hbytes (fun g cap w' a1 a2 a3 a4 => hK _ _ (h g cap w' a1 a2 a3 a4))

end
end Go.Proofs.Ytmhmfcphjfgppaa
