/- What the cards of this seat's statements want beside their walks: the listed tables' world; parameters opened. No walk stands here. -/
import Derived.Test.YtmcnoekpblkpdaaDoorLaw
import Derived.Test.YtmcnoekpblkpdaaDoorTie
import Derived.Test.YtmcnoekpblkpdaaDoorCards
import Derived.Lay
import Derived.LaidMore
import Derived.Lib.SmallJoins
namespace Go.Proofs.YtmcnoekpblkpdaaDoor
open Go.ChangeShapes Go.WideShapes Go.ChangeAt Go.RowKit

theorem Tryd.own : ownKnob Tryd.prog.godebug = none := by kernel_rfl
theorem Tryd.laidOut : laidOutB Tryd.prog = true := by kernel_rfl
def laidS : List (String × DataW Unit) := [("unicode/utf8.acceptRanges", Rows.laid_unicode_utf8_acceptRanges), ("unicode/utf8.first", Rows.laid_unicode_utf8_first)]
theorem laid_met (os : Os) (args : Array Value) : laidMetH Tryd.prog laidS ((World.laidAll Tryd.prog os laidS).forCall (fun _ _ => 0) ⟨#[], args, []⟩).memory := by
  rw [MakeChecks.laidMetH_plain _ _ _ (by kernel_rfl)]
  exact laidMet_laidAll _ (by kernel_rfl) (by kernel_rfl)

section
variable {H : Type} {enc : TypeId × Value → H} {W : World} {base : Nat} {sp : Nat → Bool} {held : Bool}
theorem nat_of_wf {k : Int} (h : (Lit.int .u64 k).wf = true) : ∃ n : Nat, k = (n : Int) ∧ n < 18446744073709551616 := by
  have h' : 0 ≤ k ∧ k < 18446744073709551616 := by
    simp [Lit.wf, IntKind.min, IntKind.max, IntKind.signed, IntKind.bits] at h
    omega
  exact ⟨k.toNat, by omega, by omega⟩
theorem open_tag {r : Reach} {b0 : Nat} {v : Value} {d : DataW H} {p : List MemPlace} (hv : Value.okWide Tryd.prog W r b0 24 v) (h : DataW.Trod enc Tryd.prog W base sp held 24 v d p) :
    ∃ a b : Nat, v = .agg #[.int .u64 (a : Int), .int .u64 (b : Int)] ∧ a < 18446744073709551616 ∧ b < 18446744073709551616 := by
  obtain ⟨v0, v1, y0, y1, n, rfl, _, _, h0, h1⟩ := Joins.open_agg2 Tryd.underlying24 (by kernel_rfl) (by kernel_rfl) hv h
  obtain ⟨a, ha, _, wa⟩ := DataW.trod_int Tryd.underlying22 h0
  obtain ⟨b, hb, _, wb⟩ := DataW.trod_int Tryd.underlying22 h1
  simp at ha hb
  subst ha; subst hb
  obtain ⟨a', rfl, ha⟩ := nat_of_wf wa
  obtain ⟨b', rfl, hb⟩ := nat_of_wf wb
  exact ⟨a', b', rfl, ha, hb⟩
end
end Go.Proofs.YtmcnoekpblkpdaaDoor
