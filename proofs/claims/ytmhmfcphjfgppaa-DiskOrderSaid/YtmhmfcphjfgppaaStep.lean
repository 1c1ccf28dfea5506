/- Words of mine: the steps of a drawn region walked in one order (wp_region_ord), guards included. No program's number stands here. -/
import Derived.Test.YtmhmfcphjfgppaaLaw
namespace Go.Proofs.Ytmhmfcphjfgppaa
open Go.RowKit

section
variable {P : Program} {ops : Array Oper} {Q : Exit → Act → World → Prop} {S : World → Prop} {i : Nat} {r : List (Nat × Bool × Bool)} {a : Act} {w : World}
theorem O_take (o : Oper) (v : Value) (ho : ops[i]? = some o) (hw : Region.wanted o (yielded ops a.tmps) = true) (hQ : ∀ c a' w', Q (.panic c) (a'.put o.dst v) w' → Q (.panic c) a' w') (hS : S w)
    (hy : ∀ w, S w → (execOp a.eval o).run P w = .ok (.value v) w) (hn : wpOrd P ops Q S r (a.put o.dst v) w) : wpOrd P ops Q S ((i, false, true) :: r) a w :=
  ⟨o, v, ho, .inl ⟨hw, fun w hS => hy w (hS rfl)⟩, hQ, fun _ => hS, hn⟩
theorem O_pass (o : Oper) (ho : ops[i]? = some o) (hw : Region.wanted o (yielded ops a.tmps) = false) (hQ : ∀ c a' w', Q (.panic c) (a'.put o.dst undef) w' → Q (.panic c) a' w') (hS : S w)
    (hn : wpOrd P ops Q S r (a.put o.dst undef) w) : wpOrd P ops Q S ((i, false, true) :: r) a w :=
  ⟨o, undef, ho, .inr ⟨hw, rfl⟩, hQ, fun _ => hS, hn⟩
theorem O_act (o : Oper) (ho : ops[i]? = some o) (hw : Region.wanted o (yielded ops a.tmps) = true)
    (hn : ∀ K' : Act → World → Prop, (∀ a w, S w → wpOrd P ops Q S r a w → K' a w) → Oper.wp P o a w K' Q) : wpOrd P ops Q S ((i, true, true) :: r) a w :=
  ⟨o, ho, fun K' hK => by rw [if_pos hw]; exact hn K' (fun a w hS h => hK a w (fun _ => hS) h)⟩
theorem O_idle (o : Oper) (ho : ops[i]? = some o) (hw : Region.wanted o (yielded ops a.tmps) = false) (hS : S w) (hn : wpOrd P ops Q S r (a.put o.dst undef) w) : wpOrd P ops Q S ((i, true, true) :: r) a w :=
  ⟨o, ho, fun K' hK => by rw [if_neg (by rw [hw]; simp)]; exact hK _ _ (fun _ => hS) hn⟩
theorem O_takeF (o : Oper) (v : Value) (ho : ops[i]? = some o) (hw : Region.wanted o (yielded ops a.tmps) = true) (hQ : ∀ c a' w', Q (.panic c) (a'.put o.dst v) w' → Q (.panic c) a' w')
    (hy : ∀ w, (execOp a.eval o).run P w = .ok (.value v) w) (hn : wpOrd P ops Q S r (a.put o.dst v) w) : wpOrd P ops Q S ((i, false, false) :: r) a w :=
  ⟨o, v, ho, .inl ⟨hw, fun w _ => hy w⟩, hQ, (fun h => by cases h), hn⟩
theorem O_actF (o : Oper) (ho : ops[i]? = some o) (hw : Region.wanted o (yielded ops a.tmps) = true)
    (hn : ∀ K' : Act → World → Prop, (∀ a w, wpOrd P ops Q S r a w → K' a w) → Oper.wp P o a w K' Q) : wpOrd P ops Q S ((i, true, false) :: r) a w :=
  ⟨o, ho, fun K' hK => by rw [if_pos hw]; exact hn K' (fun a w h => hK a w (fun h => (by cases h)) h)⟩
end

theorem str_nil : (strOf []).toList = [] ∧ (strOf []).toList.isEmpty = true := by rw [ByteArray.toList_eq]; exact ⟨rfl, rfl⟩
theorem str_ne_nil {s : List UInt8} (h : s ≠ []) : ¬ (strOf s).toList = [] ∧ (strOf s).toList.isEmpty = false := by
  rw [ByteArray.toList_eq]
  have : (strOf s).data.toList = s := by simp [strOf]
  rw [this]
  exact ⟨h, by simpa using h⟩
/-- Nothing that lay in w has turned. -/
def Bel (w w' : World) : Prop := Below w.heap.size w w'
section
variable {w w0 w1 w2 : World}
theorem Bel.refl (w : World) : Bel w w := Below.refl _ _
theorem Bel.start (w : World) : Bel w w.drew := (Below.refl _ _).drew
theorem Bel.size (h : Bel w0 w1) : w0.heap.size ≤ w1.heap.size := Below.size h
theorem Bel.step (h : Bel w0 w1) (hb : Below w1.heap.size w1 w2) : Bel w0 w2 := Below.trans h (hb.mono h.size)
theorem Bel.drew (h : Bel w0 w1) : Bel w0 w1.drew := Below.drew h
theorem Bel.drewN (h : Bel w0 w1) (n : Nat) : Bel w0 (w1.drewN n) := by
  have h' : Below w0.heap.size w0 w1 := h
  exact (⟨h'.os, h'.tape, h'.output, h'.size, h'.block⟩ : Below w0.heap.size w0 (w1.drewN n))
theorem Bel.alloc (h : Bel w0 w1) (o : Obj) : Bel w0 (w1.alloc o) := Below.alloc h h.size o
theorem Bel.setCell (h : Bel w0 w1) {p : Addr} (hp : w0.heap.size ≤ p.block) (v : Value) : Bel w0 (w1.setCell p v) := Below.setCell h hp v
theorem Bel.cells {p : Addr} {u : Value} (h : Bel w0 w1) (hu : w0.cell? p = some u) (hp : p.block < w0.heap.size) : w1.cell? p = some u := (Below.cell h hp).trans hu
theorem Blk.bel {g : Nat} {t : TypeId} {cs : Array Value} (h : Blk w g t cs) (hb : Bel w w1) : Blk w1 g t cs := h.below hb h.lt
theorem Bel.keep2 {p q : Addr} {u v : Value} (hp : p.block < w0.heap.size) (hq : q.block < w0.heap.size) (hu : w0.cell? p = some u) (hv : w0.cell? q = some v) (h : Bel w0 w1) : Bel w0 w1 ∧ w1.cell? p = some u ∧ w1.cell? q = some v :=
  ⟨h, (Below.cell h hp).trans hu, (Below.cell h hq).trans hv⟩
theorem Bel.step2 {Q : Prop} (h : Bel w0 w1 ∧ Q) (hb : Below w1.heap.size w1 w2) : Bel w0 w2 := h.1.step hb
theorem Blk.newBelow2 {t : TypeId} {cs : Array Value} (hb : Below (w.alloc (.cells cs t)).drew.heap.size (w.alloc (.cells cs t)).drew w1) : Blk w1 w.heap.size t cs := (Blk.new w t cs).drew.below hb (by simp)
theorem Blk.newBelow {t : TypeId} {cs : Array Value} (hb : Below (w.alloc (.cells cs t)).heap.size (w.alloc (.cells cs t)) w1) : Blk w1 w.heap.size t cs := (Blk.new w t cs).below hb (by simp)
end
end Go.Proofs.Ytmhmfcphjfgppaa
