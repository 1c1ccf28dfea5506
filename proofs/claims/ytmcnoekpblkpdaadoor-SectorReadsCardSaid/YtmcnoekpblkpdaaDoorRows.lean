/-
  NARROWER THAN 'FOR EVERY INPUT', by the rows' own cells (each row's printed sentence says how): SectorReads: laid · SectorBack: laid · SectorTorn: laid · SectorEnds: laid · SectorMakes: laid · SectorOrder: laid.
  DERIVED. THE GIVEN ROWS OF THIS SEAT. 6 by the template 'for every input the law returns true; each argument reads behind the call as it read before'; 0 by the template 'total and deterministic' (their statements: YtmcnoekpblkpdaaDoorTotals.lean).
  GIVEN WITH THE SEED: the statements are not yours to turn. If you find one false, say at which input.
  Laid BY PROGRAM, IN A SANDBOX (cutbox-rows.mjs): the forced cells as the released guide's own fill.sh prints them over the translation 86dcc8f7d558a025… (all of the seat's roots in one cut). By AI agents, Wed Nov 11 2026. No macro, syntax, notation, axiom, sorry.
-/
import Derived.Test.YtmcnoekpblkpdaaDoorChecked
import GoSem.PinnedTables
import GoSem.Claim
import GoSem.ClaimJoined
import GoSem.ClaimMapViews
import Derived.JoinedTies
import Derived.KernelRfl
namespace Go.Proofs.YtmcnoekpblkpdaaDoor
/- THE CELL 'sum', in the pinned program and in every row, IS THE sha256 OF THE DUMP (.gsa) THAT YtmcnoekpblkpdaaDoorProg.lean LOADS. Nothing in Lean hashes anything: it is a label: what it is worth is what the hold of that sum in a sandbox is worth. -/
noncomputable def Tryd.pinned : Pinned := { name := "ytmcnoekpblkpdaadoor", sum := "86dcc8f7d558a025b3cf6a1806613eb232c8c2b4fde214202bf38f80c873a790", checked := Tryd.checked }
namespace Rows
def none {H : Type} : Left H := { results := [], args := [] }

/- WHAT THE LISTED PACKAGE-LEVEL VARIABLES READ AS WHEN THE CALL BEGINS. Each datum BY PROGRAM (the guide's laid-datum.mjs) off the statement by which the dump's own 'gosem.cut.vars' lays the variable. In a bare row this is a premise. The card (YtmcnoekpblkpdaaDoorCards.lean) ties it to the program's text. -/
def laid_unicode_utf8_acceptRanges {H : Type} : DataW H := .agg [.agg [.lit (.int .u8 128), .lit (.int .u8 191)], .agg [.lit (.int .u8 160), .lit (.int .u8 191)], .agg [.lit (.int .u8 128), .lit (.int .u8 159)], .agg [.lit (.int .u8 144), .lit (.int .u8 191)], .agg [.lit (.int .u8 128), .lit (.int .u8 143)], .agg [.lit (.int .u8 0), .lit (.int .u8 0)], .agg [.lit (.int .u8 0), .lit (.int .u8 0)], .agg [.lit (.int .u8 0), .lit (.int .u8 0)], .agg [.lit (.int .u8 0), .lit (.int .u8 0)], .agg [.lit (.int .u8 0), .lit (.int .u8 0)], .agg [.lit (.int .u8 0), .lit (.int .u8 0)], .agg [.lit (.int .u8 0), .lit (.int .u8 0)], .agg [.lit (.int .u8 0), .lit (.int .u8 0)], .agg [.lit (.int .u8 0), .lit (.int .u8 0)], .agg [.lit (.int .u8 0), .lit (.int .u8 0)], .agg [.lit (.int .u8 0), .lit (.int .u8 0)]]
/-- One of Go's own tables, pinned by name: the form's constant. -/
def laid_unicode_utf8_first : DataW Unit := Go.Pinned.utf8First

/-- 'venduelaw03.SectorReads': WHATEVER THE INPUT: true; the input reads as it did. -/
def sectorReadsSpec : ChangeSpec := { name := "sectorReads", fn := fun _ => fun
  | [d1, d2, d3] => { results := [.lit (.bool true)], args := [d1, d2, d3] }
  | _ => none }
def sectorReadsRow : OpenClaim := { program := "ytmcnoekpblkpdaadoor", sum := "86dcc8f7d558a025b3cf6a1806613eb232c8c2b4fde214202bf38f80c873a790", func := "vendue/venduelaw03.SectorReads", spec := "sectorReads", inPlace := ["internal/abi.NoEscape", "internal/bytealg.MakeNoZero", "internal/bytealg.IndexByteString", "internal/bytealg.IndexString"], unfollowed := true, recurses := true, named := ["unicode/utf8.first", "unicode/utf8.acceptRanges", "internal/bytealg.MaxLen"], apart := false, laid := [("unicode/utf8.acceptRanges", laid_unicode_utf8_acceptRanges), ("unicode/utf8.first", laid_unicode_utf8_first)] }
def SectorReadsSaid : Prop := sectorReadsRow.holds Tryd.pinned (OpenSpec.ofChange sectorReadsSpec)

/-- ITS FALSE NEIGHBOUR: 'it returns false'. Refute it at one input. -/
def sectorReadsWrong : ChangeSpec := { name := "sectorReads", fn := fun _ => fun
  | [d1, d2, d3] => { results := [.lit (.bool false)], args := [d1, d2, d3] }
  | _ => none }
def SectorReadsWrongFalsely : Prop := sectorReadsRow.holds Tryd.pinned (OpenSpec.ofChange sectorReadsWrong)

/-- 'venduelaw03.SectorBack': WHATEVER THE INPUT: true; the input reads as it did. -/
def sectorBackSpec : ChangeSpec := { name := "sectorBack", fn := fun _ => fun
  | [d1, d2, d3] => { results := [.lit (.bool true)], args := [d1, d2, d3] }
  | _ => none }
def sectorBackRow : OpenClaim := { program := "ytmcnoekpblkpdaadoor", sum := "86dcc8f7d558a025b3cf6a1806613eb232c8c2b4fde214202bf38f80c873a790", func := "vendue/venduelaw03.SectorBack", spec := "sectorBack", inPlace := ["internal/abi.NoEscape", "internal/bytealg.MakeNoZero", "internal/bytealg.IndexByteString", "internal/bytealg.IndexString"], unfollowed := true, recurses := true, named := ["unicode/utf8.first", "unicode/utf8.acceptRanges", "internal/bytealg.MaxLen"], apart := false, laid := [("unicode/utf8.acceptRanges", laid_unicode_utf8_acceptRanges), ("unicode/utf8.first", laid_unicode_utf8_first)] }
def SectorBackSaid : Prop := sectorBackRow.holds Tryd.pinned (OpenSpec.ofChange sectorBackSpec)

/-- ITS FALSE NEIGHBOUR: 'it returns false'. Refute it at one input. -/
def sectorBackWrong : ChangeSpec := { name := "sectorBack", fn := fun _ => fun
  | [d1, d2, d3] => { results := [.lit (.bool false)], args := [d1, d2, d3] }
  | _ => none }
def SectorBackWrongFalsely : Prop := sectorBackRow.holds Tryd.pinned (OpenSpec.ofChange sectorBackWrong)

/-- 'venduelaw03.SectorTorn': WHATEVER THE INPUT: true; the input reads as it did. -/
def sectorTornSpec : ChangeSpec := { name := "sectorTorn", fn := fun _ => fun
  | [d1, d2, d3] => { results := [.lit (.bool true)], args := [d1, d2, d3] }
  | _ => none }
def sectorTornRow : OpenClaim := { program := "ytmcnoekpblkpdaadoor", sum := "86dcc8f7d558a025b3cf6a1806613eb232c8c2b4fde214202bf38f80c873a790", func := "vendue/venduelaw03.SectorTorn", spec := "sectorTorn", inPlace := ["internal/abi.NoEscape", "internal/bytealg.MakeNoZero", "internal/bytealg.IndexByteString", "internal/bytealg.IndexString"], unfollowed := true, recurses := true, named := ["unicode/utf8.first", "unicode/utf8.acceptRanges", "internal/bytealg.MaxLen"], apart := false, laid := [("unicode/utf8.acceptRanges", laid_unicode_utf8_acceptRanges), ("unicode/utf8.first", laid_unicode_utf8_first)] }
def SectorTornSaid : Prop := sectorTornRow.holds Tryd.pinned (OpenSpec.ofChange sectorTornSpec)

/-- ITS FALSE NEIGHBOUR: 'it returns false'. Refute it at one input. -/
def sectorTornWrong : ChangeSpec := { name := "sectorTorn", fn := fun _ => fun
  | [d1, d2, d3] => { results := [.lit (.bool false)], args := [d1, d2, d3] }
  | _ => none }
def SectorTornWrongFalsely : Prop := sectorTornRow.holds Tryd.pinned (OpenSpec.ofChange sectorTornWrong)

/-- 'venduelaw03.SectorEnds': WHATEVER THE INPUT: true; the input reads as it did. -/
def sectorEndsSpec : ChangeSpec := { name := "sectorEnds", fn := fun _ => fun
  | [d1, d2, d3] => { results := [.lit (.bool true)], args := [d1, d2, d3] }
  | _ => none }
def sectorEndsRow : OpenClaim := { program := "ytmcnoekpblkpdaadoor", sum := "86dcc8f7d558a025b3cf6a1806613eb232c8c2b4fde214202bf38f80c873a790", func := "vendue/venduelaw03.SectorEnds", spec := "sectorEnds", inPlace := ["internal/abi.NoEscape", "internal/bytealg.MakeNoZero", "internal/bytealg.IndexByteString", "internal/bytealg.IndexString"], unfollowed := true, recurses := true, named := ["unicode/utf8.first", "unicode/utf8.acceptRanges", "internal/bytealg.MaxLen"], apart := false, laid := [("unicode/utf8.acceptRanges", laid_unicode_utf8_acceptRanges), ("unicode/utf8.first", laid_unicode_utf8_first)] }
def SectorEndsSaid : Prop := sectorEndsRow.holds Tryd.pinned (OpenSpec.ofChange sectorEndsSpec)

/-- ITS FALSE NEIGHBOUR: 'it returns false'. Refute it at one input. -/
def sectorEndsWrong : ChangeSpec := { name := "sectorEnds", fn := fun _ => fun
  | [d1, d2, d3] => { results := [.lit (.bool false)], args := [d1, d2, d3] }
  | _ => none }
def SectorEndsWrongFalsely : Prop := sectorEndsRow.holds Tryd.pinned (OpenSpec.ofChange sectorEndsWrong)

/-- 'venduelaw03.SectorMakes': WHATEVER THE INPUT: true; the input reads as it did. -/
def sectorMakesSpec : ChangeSpec := { name := "sectorMakes", fn := fun _ => fun
  | [d1, d2, d3] => { results := [.lit (.bool true)], args := [d1, d2, d3] }
  | _ => none }
def sectorMakesRow : OpenClaim := { program := "ytmcnoekpblkpdaadoor", sum := "86dcc8f7d558a025b3cf6a1806613eb232c8c2b4fde214202bf38f80c873a790", func := "vendue/venduelaw03.SectorMakes", spec := "sectorMakes", inPlace := ["internal/abi.NoEscape", "internal/bytealg.MakeNoZero", "internal/bytealg.IndexByteString", "internal/bytealg.IndexString"], unfollowed := true, recurses := true, named := ["unicode/utf8.first", "unicode/utf8.acceptRanges", "internal/bytealg.MaxLen"], apart := false, laid := [("unicode/utf8.acceptRanges", laid_unicode_utf8_acceptRanges), ("unicode/utf8.first", laid_unicode_utf8_first)] }
def SectorMakesSaid : Prop := sectorMakesRow.holds Tryd.pinned (OpenSpec.ofChange sectorMakesSpec)

/-- ITS FALSE NEIGHBOUR: 'it returns false'. Refute it at one input. -/
def sectorMakesWrong : ChangeSpec := { name := "sectorMakes", fn := fun _ => fun
  | [d1, d2, d3] => { results := [.lit (.bool false)], args := [d1, d2, d3] }
  | _ => none }
def SectorMakesWrongFalsely : Prop := sectorMakesRow.holds Tryd.pinned (OpenSpec.ofChange sectorMakesWrong)

/-- 'venduelaw03.SectorOrder': WHATEVER THE INPUT: true; the input reads as it did. -/
def sectorOrderSpec : ChangeSpec := { name := "sectorOrder", fn := fun _ => fun
  | [d1, d2] => { results := [.lit (.bool true)], args := [d1, d2] }
  | _ => none }
def sectorOrderRow : OpenClaim := { program := "ytmcnoekpblkpdaadoor", sum := "86dcc8f7d558a025b3cf6a1806613eb232c8c2b4fde214202bf38f80c873a790", func := "vendue/venduelaw03.SectorOrder", spec := "sectorOrder", inPlace := ["internal/abi.NoEscape", "internal/bytealg.MakeNoZero", "internal/bytealg.IndexByteString", "internal/bytealg.IndexString"], unfollowed := true, recurses := true, named := ["unicode/utf8.first", "unicode/utf8.acceptRanges", "internal/bytealg.MaxLen"], apart := false, laid := [("unicode/utf8.acceptRanges", laid_unicode_utf8_acceptRanges), ("unicode/utf8.first", laid_unicode_utf8_first)] }
def SectorOrderSaid : Prop := sectorOrderRow.holds Tryd.pinned (OpenSpec.ofChange sectorOrderSpec)

/-- ITS FALSE NEIGHBOUR: 'it returns false'. Refute it at one input. -/
def sectorOrderWrong : ChangeSpec := { name := "sectorOrder", fn := fun _ => fun
  | [d1, d2] => { results := [.lit (.bool false)], args := [d1, d2] }
  | _ => none }
def SectorOrderWrongFalsely : Prop := sectorOrderRow.holds Tryd.pinned (OpenSpec.ofChange sectorOrderWrong)

/- THE SECOND FORM. 'bulk': how many values and letters a reading holds, each counted each time it is reached (what is shared counts as often as it is met; a slice's spare places count too). A statement '..UptoSaid' is the law's where the arguments, and the package variables that the reading takes, are together of bulk at most 1048576: NARROWER than '..Said'. Prove '..Said' where nothing that the law and all that it calls make is longer than what came in: it says more and counts as full. Else prove '..UptoSaid'. A law counts once. -/
mutual
def uptoBulk {H : Type} : DataW H → Nat
  | .lit (.string bytes) => bytes.length + 1
  | .lit _ => 1
  | .nil => 1
  | .ptr d => uptoBulk d + 1
  | .slice elems spare => uptoBulkAll elems + uptoBulkAll spare + 1
  | .agg parts => uptoBulkAll parts + 1
  | .iface _ d => uptoBulk d + 1
  | .map entries => uptoBulkEntries entries + 1
  | .held _ => 1
def uptoBulkAll {H : Type} : List (DataW H) → Nat
  | [] => 0
  | d :: r => uptoBulk d + uptoBulkAll r
def uptoBulkEntries {H : Type} : List (Lit × DataW H) → Nat
  | [] => 0
  | x :: r => uptoBulkEntry x + uptoBulkEntries r
def uptoBulkEntry {H : Type} : Lit × DataW H → Nat
  | (.string bytes, d) => bytes.length + uptoBulk d + 1
  | (_, d) => uptoBulk d + 1
 end
def uptoSmall : (H : Type) → List (DataW H) → Bool := fun _ ds => decide (uptoBulkAll ds ≤ 1048576)
def OpenSpec.upto (s : _root_.Go.ChangeSpec) : _root_.Go.OpenSpec := { _root_.Go.OpenSpec.ofChange s with cond := some uptoSmall }

/-- 'venduelaw03.SectorReads', WHERE WHAT IT READS IS OF BULK AT MOST 1048576: true; the input reads as it did. -/
def sectorReadsUptoRow : OpenClaim := { program := "ytmcnoekpblkpdaadoor", sum := "86dcc8f7d558a025b3cf6a1806613eb232c8c2b4fde214202bf38f80c873a790", func := "vendue/venduelaw03.SectorReads", spec := "sectorReads", inPlace := ["internal/abi.NoEscape", "internal/bytealg.MakeNoZero", "internal/bytealg.IndexByteString", "internal/bytealg.IndexString"], unfollowed := true, recurses := true, named := ["unicode/utf8.first", "unicode/utf8.acceptRanges", "internal/bytealg.MaxLen"], apart := false, laid := [("unicode/utf8.acceptRanges", laid_unicode_utf8_acceptRanges), ("unicode/utf8.first", laid_unicode_utf8_first)], narrowed := true }
def SectorReadsUptoSaid : Prop := sectorReadsUptoRow.holds Tryd.pinned (OpenSpec.upto sectorReadsSpec)

/-- 'venduelaw03.SectorBack', WHERE WHAT IT READS IS OF BULK AT MOST 1048576: true; the input reads as it did. -/
def sectorBackUptoRow : OpenClaim := { program := "ytmcnoekpblkpdaadoor", sum := "86dcc8f7d558a025b3cf6a1806613eb232c8c2b4fde214202bf38f80c873a790", func := "vendue/venduelaw03.SectorBack", spec := "sectorBack", inPlace := ["internal/abi.NoEscape", "internal/bytealg.MakeNoZero", "internal/bytealg.IndexByteString", "internal/bytealg.IndexString"], unfollowed := true, recurses := true, named := ["unicode/utf8.first", "unicode/utf8.acceptRanges", "internal/bytealg.MaxLen"], apart := false, laid := [("unicode/utf8.acceptRanges", laid_unicode_utf8_acceptRanges), ("unicode/utf8.first", laid_unicode_utf8_first)], narrowed := true }
def SectorBackUptoSaid : Prop := sectorBackUptoRow.holds Tryd.pinned (OpenSpec.upto sectorBackSpec)

/-- 'venduelaw03.SectorTorn', WHERE WHAT IT READS IS OF BULK AT MOST 1048576: true; the input reads as it did. -/
def sectorTornUptoRow : OpenClaim := { program := "ytmcnoekpblkpdaadoor", sum := "86dcc8f7d558a025b3cf6a1806613eb232c8c2b4fde214202bf38f80c873a790", func := "vendue/venduelaw03.SectorTorn", spec := "sectorTorn", inPlace := ["internal/abi.NoEscape", "internal/bytealg.MakeNoZero", "internal/bytealg.IndexByteString", "internal/bytealg.IndexString"], unfollowed := true, recurses := true, named := ["unicode/utf8.first", "unicode/utf8.acceptRanges", "internal/bytealg.MaxLen"], apart := false, laid := [("unicode/utf8.acceptRanges", laid_unicode_utf8_acceptRanges), ("unicode/utf8.first", laid_unicode_utf8_first)], narrowed := true }
def SectorTornUptoSaid : Prop := sectorTornUptoRow.holds Tryd.pinned (OpenSpec.upto sectorTornSpec)

/-- 'venduelaw03.SectorEnds', WHERE WHAT IT READS IS OF BULK AT MOST 1048576: true; the input reads as it did. -/
def sectorEndsUptoRow : OpenClaim := { program := "ytmcnoekpblkpdaadoor", sum := "86dcc8f7d558a025b3cf6a1806613eb232c8c2b4fde214202bf38f80c873a790", func := "vendue/venduelaw03.SectorEnds", spec := "sectorEnds", inPlace := ["internal/abi.NoEscape", "internal/bytealg.MakeNoZero", "internal/bytealg.IndexByteString", "internal/bytealg.IndexString"], unfollowed := true, recurses := true, named := ["unicode/utf8.first", "unicode/utf8.acceptRanges", "internal/bytealg.MaxLen"], apart := false, laid := [("unicode/utf8.acceptRanges", laid_unicode_utf8_acceptRanges), ("unicode/utf8.first", laid_unicode_utf8_first)], narrowed := true }
def SectorEndsUptoSaid : Prop := sectorEndsUptoRow.holds Tryd.pinned (OpenSpec.upto sectorEndsSpec)

/-- 'venduelaw03.SectorMakes', WHERE WHAT IT READS IS OF BULK AT MOST 1048576: true; the input reads as it did. -/
def sectorMakesUptoRow : OpenClaim := { program := "ytmcnoekpblkpdaadoor", sum := "86dcc8f7d558a025b3cf6a1806613eb232c8c2b4fde214202bf38f80c873a790", func := "vendue/venduelaw03.SectorMakes", spec := "sectorMakes", inPlace := ["internal/abi.NoEscape", "internal/bytealg.MakeNoZero", "internal/bytealg.IndexByteString", "internal/bytealg.IndexString"], unfollowed := true, recurses := true, named := ["unicode/utf8.first", "unicode/utf8.acceptRanges", "internal/bytealg.MaxLen"], apart := false, laid := [("unicode/utf8.acceptRanges", laid_unicode_utf8_acceptRanges), ("unicode/utf8.first", laid_unicode_utf8_first)], narrowed := true }
def SectorMakesUptoSaid : Prop := sectorMakesUptoRow.holds Tryd.pinned (OpenSpec.upto sectorMakesSpec)

/-- 'venduelaw03.SectorOrder', WHERE WHAT IT READS IS OF BULK AT MOST 1048576: true; the input reads as it did. -/
def sectorOrderUptoRow : OpenClaim := { program := "ytmcnoekpblkpdaadoor", sum := "86dcc8f7d558a025b3cf6a1806613eb232c8c2b4fde214202bf38f80c873a790", func := "vendue/venduelaw03.SectorOrder", spec := "sectorOrder", inPlace := ["internal/abi.NoEscape", "internal/bytealg.MakeNoZero", "internal/bytealg.IndexByteString", "internal/bytealg.IndexString"], unfollowed := true, recurses := true, named := ["unicode/utf8.first", "unicode/utf8.acceptRanges", "internal/bytealg.MaxLen"], apart := false, laid := [("unicode/utf8.acceptRanges", laid_unicode_utf8_acceptRanges), ("unicode/utf8.first", laid_unicode_utf8_first)], narrowed := true }
def SectorOrderUptoSaid : Prop := sectorOrderUptoRow.holds Tryd.pinned (OpenSpec.upto sectorOrderSpec)

end Rows
end Go.Proofs.YtmcnoekpblkpdaaDoor
