/- Words of mine: single operations within a fence (the body of a range over a function), and the way in and out of a function that ranges over a function. No program's number stands here. -/
import Derived.Test.YtmhmfcphjfgppaaOrd
import Derived.RangeFuncNested
import Derived.RangeFuncBound
import Derived.RangeFuncCalls
import Derived.RangeFuncLeaves
import Derived.RangeFuncFrom
import Derived.RangeFuncWrites
import Derived.Shelf.Abstract
import Derived.Shelf.RegionOpen
import Derived.OwnWalkIn
import Derived.TacticsInMore
import Derived.LoopNIn
import Derived.LoopIn
namespace Go.Proofs.Ytmhmfcphjfgppaa
open Go.RowKit Go.Shelf

section
variable {F : Fence} {n : Nat} {P : Program} {w w' : World} {o : Oper} {a : Act} {Q : Exit → Act → World → Prop} {ops : Array Oper} {rest : List Oper} {v : Value}

theorem G_val (hgd : o.guard = none) (hab : o.about P w a.eval = none) (hnd : ∀ c, o.op ≠ .defer c) (hrun : (execOp a.eval o).run P w = .ok (.value v) w')
    (h : wpListIn F n P ops Q rest (a.put o.dst v) w') : wpListIn F n P ops Q (o :: rest) a w := by
  refine wpListIn_plain hgd fun K hK => ?_
  unfold Oper.wpIn
  refine ⟨fun f hf => (by rw [hab] at hf; cases hf), ?_⟩
  rw [Oper.semAt_eq F.round _ _ hnd, hrun]
  exact hK _ _ h
theorem G_skp (hgd : o.guard = none) (hab : o.about P w a.eval = none) (hnd : ∀ c, o.op ≠ .defer c) (hrun : (execOp a.eval o).run P w = .ok .skip w')
    (h : wpListIn F n P ops Q rest (a.put o.dst undef) w') : wpListIn F n P ops Q (o :: rest) a w := by
  refine wpListIn_plain hgd fun K hK => ?_
  unfold Oper.wpIn
  refine ⟨fun f hf => (by rw [hab] at hf; cases hf), ?_⟩
  rw [Oper.semAt_eq F.round _ _ hnd, hrun]
  exact hK _ _ h
theorem G_alloc (hgd : o.guard = none) (e : TypeId) (ho : o.op = .alloc e) {cs : List Value} (hz : (P.info? e).map (·.zero) = some (some (.agg cs.toArray)))
    (h : wpListIn F n P ops Q rest (a.put o.dst (.pointer (some ⟨w.heap.size, 0, none⟩))) (w.alloc (.cells cs.toArray e))) : wpListIn F n P ops Q (o :: rest) a w :=
  G_val hgd (by simp [Oper.about, ho]) (by simp [ho]) (x_alloc ho hz) h
theorem G_load_as (hgd : o.guard = none) (ty : TypeId) (x : Operand) (ho : o.op = .load ty x) (g off m : Nat) (t : TypeId) (L cs : List Value) (hx : a.eval x = .pointer (some ⟨g, off, none⟩)) (hb : Blk w g t L.toArray)
    {d : TypeDesc} (hu : P.underlying ty = some d) (hd : d.isRow = true) (hi : (P.info? ty).map (·.size) = some m) (hl : off + m ≤ L.length) (hcs : (L.drop off).take m = cs)
    (h : wpListIn F n P ops Q rest (a.put o.dst (.agg cs.toArray)) w) : wpListIn F n P ops Q (o :: rest) a w := by
  subst hcs
  exact G_val hgd (by simp [Oper.about, ho]) (by simp [ho]) (x_load ho hx hb hu hd hi hl) h
theorem G_store (hgd : o.guard = none) (ty : TypeId) (x y : Operand) (ho : o.op = .store ty x y) (g off : Nat) (t : TypeId) (L cs : List Value) (hx : a.eval x = .pointer (some ⟨g, off, none⟩)) (hy : a.eval y = .agg cs.toArray) (hb : Blk w g t L.toArray)
    (hi : (P.info? ty).map (·.size) = some cs.length) (hl : off + cs.length ≤ L.length) (h1 : ∀ v ∈ cs, v.oneCell' = true)
    (h : wpListIn F n P ops Q rest (a.put o.dst undef) (w.setCells g off cs)) : wpListIn F n P ops Q (o :: rest) a w :=
  G_skp hgd (by simp [Oper.about, ho]) (by simp [ho]) (x_store ho hx hy hb hi hl h1) h
end

/-- A function's contract from its body, where the body ranges over a function: the way in. -/
theorem calls_marks {P : Program} {f : FuncId} {fn : Func} {c : Code} {args : Array Value} {w : World} {R : Ending → World → Prop} (hf : P.funcs[f]? = some fn) (hb : fn.body = some c)
    (h : c.wp P (bodyPostM Fence.wide 9 P fn R) { tmps := args ++ Array.replicate (fn.ntmps - args.size) undef, defers := [] } w) : Calls P f args w R :=
  callsIn_wide.1 (callsIn_of_wp_marks (n := 9) hf hb trivial (wpIn_wide.2 h))

section
variable {P : Program} {fn : Func} {R : Ending → World → Prop} {a : Act} {w : World} {v : Value} {n : Nat}
theorem postM_ret (hd : a.defers = []) (hr : (results fn a.tmps).run P w = .ok v w) (hR : R (.returned v) w) : bodyPostM Fence.wide n P fn R .ret a w := by
  show LeavesInM _ _ _ _ _ _ a.defers _ _
  rw [hd]
  exact ⟨v, hr, hR⟩
/-- .. behind one range over a function: its block for deferred calls is taken in. -/
theorem postM_mark {D : Nat} (hd : a.defers = [{ target := .collected D, args := #[] }]) (hK : w.heap[D]? = some (.deferred (some []))) (hr : (results fn a.tmps).run P (w.putObj D (.deferred none)) = .ok v (w.putObj D (.deferred none)))
    (hR : R (.returned v) (w.putObj D (.deferred none))) : bodyPostM Fence.wide n P fn R .ret a w := by
  show LeavesInM _ _ _ _ _ _ a.defers _ _
  rw [hd]
  exact ⟨by simp, .inl ⟨_, _, rfl, run_takeDeferred hK, v, hr, hR⟩⟩
theorem run_loadVar1 {ty : TypeId} {ad : Addr} (hc : w.cell? ad = some v) {d : TypeDesc} (hu : P.underlying ty = some d) (hd : d.isRow = false) : (loadVar ty ad).run P w = .ok v w := by
  have hagg : (isAgg ty).run P w = .ok false w := by
    unfold isAgg
    rw [Sem.run_bind, run_underlying hu w]
    cases d <;> simp_all
  simp [loadVar, Sem.run_bind, hagg, Go.load, Sem.run, hc]
theorem results_cells2 {tmps : Array Value} {s t : Tmp} {ts tt : TypeId} (h : fn.results = #[.cell s ts, .cell t tt]) {pa pb : Addr} {u : Value} (hs : tmps.getD s undef = .pointer (some pa)) (ht : tmps.getD t undef = .pointer (some pb))
    (hcs : w.cell? pa = some v) (hct : w.cell? pb = some u) {ds dt : TypeDesc} (hus : P.underlying ts = some ds) (hds : ds.isRow = false) (hut : P.underlying tt = some dt) (hdt : dt.isRow = false) :
    (results fn tmps).run P w = .ok (.tuple #[v, u]) w := by
  have hs' : tmps[s]?.getD undef = .pointer (some pa) := by simpa using hs
  have ht' : tmps[t]?.getD undef = .pointer (some pb) := by simpa using ht
  simp [results, h, hs', ht', asAddr, run_loadVar1 hcs hus hds, run_loadVar1 hct hut hdt]
theorem quiet_eq {f : FuncId} {args : Array Value} {m : Nat} (h : Calls P f args (w.drewN m) fun e w' => e = .returned v ∧ w.drewN m = w') :
    Calls P f args (w.drewN m) fun e w'' => e = .returned v ∧ ∃ k, w'' = w.drewN k := h.mono fun _ _ ⟨he, hm⟩ => ⟨he, m, hm.symm⟩
end
end Go.Proofs.Ytmhmfcphjfgppaa
