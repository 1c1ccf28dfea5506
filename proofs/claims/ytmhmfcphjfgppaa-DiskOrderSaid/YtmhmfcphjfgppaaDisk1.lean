/- Walks over package disk: Len, works, empties, Break, Broken, New. -/
import Derived.Test.YtmhmfcphjfgppaaOrd
namespace Go.Proofs.Ytmhmfcphjfgppaa
open Go.RowKit

abbrev tDisk : TypeId := 62
abbrev tSector : TypeId := 64
abbrev tWrite : TypeId := 66

/-- The five words of a disk's struct. -/
def dCells (sv cv mv : Value) (left : Int) (broken : Bool) : Array Value := #[sv, cv, mv, .int .i64 left, .bool broken]

section
variable {w : World} {b : Nat} {sv cv mv : Value} {left : Int} {broken : Bool}

theorem dCell0 (h : Blk w b tDisk (dCells sv cv mv left broken)) : w.cell? ⟨b, 0, none⟩ = some sv := h.cell 0
theorem dCell1 (h : Blk w b tDisk (dCells sv cv mv left broken)) : w.cell? ⟨b, 1, none⟩ = some cv := h.cell 1
theorem dCell2 (h : Blk w b tDisk (dCells sv cv mv left broken)) : w.cell? ⟨b, 2, none⟩ = some mv := h.cell 2
theorem dCell3 (h : Blk w b tDisk (dCells sv cv mv left broken)) : w.cell? ⟨b, 3, none⟩ = some (.int .i64 left) := h.cell 3
theorem dCell4 (h : Blk w b tDisk (dCells sv cv mv left broken)) : w.cell? ⟨b, 4, none⟩ = some (.bool broken) := h.cell 4
theorem dSet1 (h : Blk w b tDisk (dCells sv cv mv left broken)) (u : Value) : Blk (w.setCell ⟨b, 1, none⟩ u) b tDisk (dCells sv u mv left broken) := h.set 1 u
theorem dSet3 (h : Blk w b tDisk (dCells sv cv mv left broken)) (n : Int) : Blk (w.setCell ⟨b, 3, none⟩ (.int .i64 n)) b tDisk (dCells sv cv mv n broken) := h.set 3 _
theorem dSet4 (h : Blk w b tDisk (dCells sv cv mv left broken)) (x : Bool) : Blk (w.setCell ⟨b, 4, none⟩ (.bool x)) b tDisk (dCells sv cv mv left x) := h.set 4 _

set_option maxHeartbeats 400000 in
theorem len_nil (w : World) : Calls Try.prog 27 #[.pointer none] w fun e w' => e = .returned (.int .i64 0) ∧ w = w' := by
  go_enter Try.func27, Try.ntmps27
  go_wp2
  go_ret
  exact ⟨rfl, rfl⟩

set_option maxHeartbeats 400000 in
theorem len_any {A : Option Addr} {n c : Nat} (w : World) (h : Blk w b tDisk (dCells (.slice A n c) cv mv left broken)) (_ : n ≤ 512) :
    Calls Try.prog 27 #[.pointer (some ⟨b, 0, none⟩)] w fun e w' => e = .returned (.int .i64 n) ∧ w = w' := by
  have h0 := dCell0 h
  have H := Lib.hid h
  clear h
  go_enter Try.func27, Try.ntmps27
  go_wp2
  go_ret
  exact ⟨rfl, rfl⟩

/-- What is left, behind one more write or sync; whether it is broken then. -/
def leftN (left : Int) : Int := if 0 < left then left - 1 else left
def brokeN (left : Int) (broken : Bool) : Bool := broken || decide (left = 1)

set_option maxHeartbeats 400000 in
theorem works_any (w : World) (h : Blk w b tDisk (dCells sv cv mv left broken)) (hl : 0 ≤ left) (hl2 : left ≤ 9223372036854775807) :
    Calls Try.prog 28 #[.pointer (some ⟨b, 0, none⟩)] w fun e w' => e = .returned (.bool (!brokeN left broken)) ∧
      Blk w' b tDisk (dCells sv cv mv (leftN left) (brokeN left broken)) ∧ Frm (· = b) w w' := by
  have h0 := dCell3 h
  have h1 := dCell4 h
  have hf0 := h.frozen 3
  have hf1 := h.frozen 4
  have H := Lib.hid h
  clear h
  by_cases hp : 0 < left
  · cases broken
    all_goals
      go_enter Try.func28, Try.ntmps28
      go_wp2
      go_ret
      refine ⟨?_, ?_, ((Frm.refl _ _).setCell (by exact .inl rfl) _).setCell (by exact .inl rfl) _⟩
    · by_cases h1 : left = 1
      · subst h1; rfl
      · have : (left - 1 == 0) = false := by rw [beq_eq_false_iff_ne]; omega
        simp [brokeN, h1, this]
    · have h3 := dSet4 (dSet3 H.out (left - 1)) (left - 1 == 0)
      rw [show leftN left = left - 1 by simp [leftN, hp], show brokeN left false = (left - 1 == 0) by simp [brokeN]; by_cases h1 : left = 1 <;> simp [h1] <;> omega]
      exact h3
    · simp [brokeN]
    · have h3 := dSet4 (dSet3 H.out (left - 1)) true
      rw [show leftN left = left - 1 by simp [leftN, hp], show brokeN left true = true by simp [brokeN]]
      exact h3
  · obtain rfl : left = 0 := by omega
    go_enter Try.func28, Try.ntmps28
    go_wp2
    go_ret
    have h3 := H.out
    refine ⟨by simp [brokeN], by simpa [leftN, brokeN] using h3, Frm.refl _ _⟩

set_option maxHeartbeats 400000 in
theorem broken_nil (w : World) : Calls Try.prog 16 #[.pointer none] w fun e w' => e = .returned (.bool false) ∧ w = w' := by
  go_enter Try.func16, Try.ntmps16
  go_wp2
  go_ret
  exact ⟨rfl, rfl⟩
set_option maxHeartbeats 400000 in
theorem broken_any (w : World) (h : Blk w b tDisk (dCells sv cv mv left broken)) :
    Calls Try.prog 16 #[.pointer (some ⟨b, 0, none⟩)] w fun e w' => e = .returned (.bool broken) ∧ w = w' := by
  have h0 := dCell4 h
  have H := Lib.hid h
  clear h
  go_enter Try.func16, Try.ntmps16
  go_wp2
  go_ret
  exact ⟨rfl, rfl⟩

set_option maxHeartbeats 400000 in
theorem break_nil (n : Int) (w : World) : Calls Try.prog 15 #[.pointer none, .int .i64 n] w fun e w' => e = .returned (.tuple #[]) ∧ w = w' := by
  go_enter Try.func15, Try.ntmps15
  go_wp2
  go_end0
  exact ⟨rfl, rfl⟩
set_option maxHeartbeats 400000 in
theorem break_any (n : Int) (w : World) (h : Blk w b tDisk (dCells sv cv mv left broken)) :
    Calls Try.prog 15 #[.pointer (some ⟨b, 0, none⟩), .int .i64 n] w fun e w' => e = .returned (.tuple #[]) ∧
      Blk w' b tDisk (dCells sv cv mv (max n 0) broken) ∧ Frm (· = b) w w' := by
  have h0 := dCell3 h
  have hf0 := h.frozen 3
  have H := Lib.hid h
  clear h
  go_enter Try.func15, Try.ntmps15
  go_wp2
  all_goals go_end0
  · rw [show max n 0 = 0 by omega]
    exact ⟨rfl, dSet3 H.out _, (Frm.refl _ _).setCell (by exact .inl rfl) _⟩
  · rw [show max n 0 = n by omega]
    exact ⟨rfl, dSet3 H.out _, (Frm.refl _ _).setCell (by exact .inl rfl) _⟩

set_option maxHeartbeats 400000 in
theorem empties_any {mb : Nat} {f : Value → Option Value} (w : World) (h : Blk w b tDisk (dCells sv cv (.map (some mb)) left broken)) (hm : MapFn Try.prog 3 w mb f) :
    Calls Try.prog 29 #[.pointer (some ⟨b, 0, none⟩)] w fun e w' => e = .returned (.tuple #[]) ∧
      Blk w' b tDisk (dCells sv (.slice none 0 0) (.map (some mb)) left broken) ∧ MapFn Try.prog 3 w' mb (fun _ => none) ∧ Frm (fun k => k = b ∨ k = mb) w w' := by
  have h0 := dCell1 h
  have h1 := dCell2 h
  have hf0 := h.frozen 1
  have hm1 := hm.setCell ⟨b, 1, none⟩ (.slice none 0 0)
  obtain ⟨w', hrun, hm2, hg⟩ := hm1.cleared Try.underlying59 0
  have hne := hm.ne_blk h
  have hb := (dSet1 h (.slice none 0 0)).grown hg (by intro e; injection e with e; exact hne e.symm)
  have H := Lib.hid hb
  clear h hb
  go_enter Try.func29, Try.ntmps29
  go_wp2
  go_end0
  exact ⟨rfl, H.out, hm2, ((Frm.refl _ _).setCell (by exact .inl (.inl rfl)) _).grown hg (by rintro k hk; injection hk with hk; exact .inl (.inr hk.symm))⟩

end
end Go.Proofs.Ytmhmfcphjfgppaa
