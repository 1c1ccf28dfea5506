/- sector: End, Make. -/
import Derived.Test.YtmcnoekpblkpdaaDoorSect1
import Derived.Handy
namespace Go.Proofs.YtmcnoekpblkpdaaDoor
open Go.RowKit

theorem extract_strOf (s : List UInt8) (i j : Nat) : (strOf s).extract i j = strOf ((s.drop i).take (j - i)) := by
  unfold strOf
  apply ByteArray.ext
  simp [ByteArray.extract, ByteArray.copySlice]
theorem results_row_tmp {P : Program} {fn : Func} {w : World} {tmps : Array Value} {s t : Tmp} {ts : TypeId} (h : fn.results = #[.cell s ts, .tmp t]) {g o : Nat} {u : Value} (hs : tmps.getD s undef = .pointer (some ⟨g, o, none⟩)) (ht : tmps.getD t undef = u)
    {cs : List Value} (hc : w.rangeAt g o cs) {d : TypeDesc} (hu : P.underlying ts = some d) (hd : d.isRow = true) (hi : (P.info? ts).map (·.size) = some cs.length) :
    (results fn tmps).run P w = .ok (.tuple #[.agg cs.toArray, u]) w := by
  have hs' : tmps[s]?.getD undef = .pointer (some ⟨g, o, none⟩) := by simpa using hs
  have ht' : tmps[t]?.getD undef = u := by simpa using ht
  simp [results, h, hs', ht', asAddr, run_loadVar_mid w g o ts cs d hc hu hd hi]
abbrev tTag : TypeId := 24
def tagV (t : Nat × Nat) : Value := .agg #[.int .u64 (t.1 : Int), .int .u64 (t.2 : Int)]
/-- What a sector's end says. -/
def endT (s : List UInt8) : Nat × Nat := (foldN 0 ((s.drop 112).take 8), foldN 0 (s.drop 120))

set_option maxHeartbeats 400000 in
set_option maxRecDepth 100000 in
theorem end_bad (s : List UInt8) (h : s.length ≠ 128) (w : World) : Calls Tryd.prog 14 #[.string (strOf s)] w fun e w' => e = .returned (.tuple #[tagV (0, 0), .bool false]) ∧ Below w.heap.size w w' := by
  have hsz : ((strOf s).size == 128) = false := by
    have : (strOf s).size = s.length := rfl
    rw [this]; simpa using h
  go_enter Tryd.func14, Tryd.ntmps14
  go_wp2_with fail
  go_returns
  exact ⟨rfl, (Below.refl _ _).alloc (Nat.le_refl _) _⟩

set_option maxHeartbeats 400000 in
set_option maxRecDepth 100000 in
theorem end_ok (s : List UInt8) (h : s.length = 128) (w : World) : Calls Tryd.prog 14 #[.string (strOf s)] w fun e w' => e = .returned (.tuple #[tagV (endT s), .bool true]) ∧ Below w.heap.size w w' := by
  have hsz : (strOf s).size = 128 := h
  go_enter Tryd.func14, Tryd.ntmps14
  go_wp2_with fail
  refine wp_region_still_tail 7 (by kernel_rfl) (by kernel_rfl) ?_
  simp only [List.take_succ_cons, List.take_zero, List.drop_succ_cons, List.drop_zero]
  repeat still_step
  have x1 : (strOf s).extract 112 120 = strOf ((s.drop 112).take 8) := extract_strOf s 112 120
  have x2 : (strOf s).extract 120 128 = strOf (s.drop 120) := by
    rw [extract_strOf s 120 128, List.take_of_length_le (by simp; omega)]
  have n1 : ∀ w, Calls Tryd.prog 25 #[.string ((strOf s).extract 112 120)] w fun e w' => e = .returned (.int .u64 ((endT s).1 : Nat)) ∧ w' = w := fun w => by
    rw [x1]; exact (number_any _ (by simp; omega) w).mono fun e w' h => ⟨h.1, h.2.symm⟩
  have n2 : ∀ w, Calls Tryd.prog 25 #[.string ((strOf s).extract 120 128)] w fun e w' => e = .returned (.int .u64 ((endT s).2 : Nat)) ∧ w' = w := fun w => by
    rw [x2]; exact (number_any _ (by simp; omega) w).mono fun e w' h => ⟨h.1, h.2.symm⟩
  have N1 := Lib.hid n1
  have N2 := Lib.hid n2
  clear n1 n2 x1 x2
  have HT : Hid (tagV (endT s) = .agg #[.int .u64 ((endT s).1 : Int), .int .u64 ((endT s).2 : Int)]) := Lib.hid rfl
  generalize (endT s).1 = p1 at *
  generalize (endT s).2 = p2 at *
  refine wpStill_step (fun K hK => ?_)
  go_simp
  refine ⟨_, N1.out _, hK _ ?_⟩
  clear hK K
  repeat still_step
  refine wpStill_step (fun K hK => ?_)
  go_simp
  refine ⟨_, N2.out _, hK _ ?_⟩
  clear hK K
  repeat still_step
  refine wpStill_nil ?_
  change wpList _ _ _ _ _ (w.alloc (.cells #[.int .u64 0, .int .u64 0] tTag)).drew
  have hN := (Blk.new w tTag #[.int .u64 0, .int .u64 0]).drew
  have hB := ((Below.refl w.heap.size w).alloc (Nat.le_refl _) (.cells #[.int .u64 0, .int .u64 0] tTag)).drew
  have c0 := hN.cell 0
  have c1 := hN.cell 1
  have z0 := hN.frozen 0
  have z1 := hN.frozen 1
  change _ = some (Value.int .u64 0) at c0
  change _ = some (Value.int .u64 0) at c1
  have HB := Lib.hid hB
  have HN := Lib.hid hN
  clear hB hN
  generalize (w.alloc (.cells #[.int .u64 0, .int .u64 0] tTag)).drew = w1 at *
  go_wp2_with fail
  have hN2 := (HN.out.set 0 (.int .u64 (p1 : Int))).set 1 (.int .u64 (p2 : Int))
  have hB2 := (HB.out.setCell (p := ⟨w.heap.size, 0, none⟩) (Nat.le_refl _) (.int .u64 (p1 : Int))).setCell (p := ⟨w.heap.size, 1, none⟩) (Nat.le_refl _) (.int .u64 (p2 : Int))
  have d0 := hN2.cell 0
  have d1 := hN2.cell 1
  change _ = some (Value.int .u64 (p1 : Int)) at d0
  change _ = some (Value.int .u64 (p2 : Int)) at d1
  have HB2 := Lib.hid hB2
  clear hN2 hB2 c0 c1 z0 z1 HN HB
  generalize (w1.setCell ⟨w.heap.size, 0, none⟩ (.int .u64 (p1 : Int))).setCell ⟨w.heap.size, 1, none⟩ (.int .u64 (p2 : Int)) = w2 at *
  (try simp only [Exit.inBlock, Exit.then])
  refine bodyPost_ret (v := .tuple #[.agg #[.int .u64 (p1 : Int), .int .u64 (p2 : Int)], .bool true]) ?_ rfl ?_
  · refine results_row_tmp (s := 2) (t := 3) rfl rfl rfl (cs := [.int .u64 (p1 : Int), .int .u64 (p2 : Int)]) ?_ Tryd.underlying24 rfl (by kernel_rfl)
    intro k v hv
    match k, hv with
    | 0, hv => rw [List.getElem?_cons_zero] at hv; rw [← hv]; exact d0
    | 1, hv => rw [List.getElem?_cons_succ, List.getElem?_cons_zero] at hv; rw [← hv]; exact d1
  · rw [HT.out]
    exact ⟨rfl, HB2.out⟩
end Go.Proofs.YtmcnoekpblkpdaaDoor
