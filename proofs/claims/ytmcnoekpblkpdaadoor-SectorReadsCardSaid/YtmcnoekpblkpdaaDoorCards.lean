/-
  DERIVED. GIVEN WITH THE SEED: THE CARDS: each row of YtmcnoekpblkpdaaDoorRows.lean that lists a variable, with what it lists TIED to the program's text (the seventh form; the later family's looks); each row that meets fmt, with fmt's text TOLD by the authors' own Lean function (tested against real Go, not proved from fmt's source: count such statements apart). THE CARD IS WHAT COUNTS. Prove the row's statement (the work); the ties are given (YtmcnoekpblkpdaaDoorTie.lean); close each card by the builder's one call (the guide's Derived/Test/ToyasCard.lean, 'card_holds'). Laid BY PROGRAM, IN A SANDBOX (cutbox-door.mjs). By AI agents, Wed Nov 11 2026. No macro, syntax, notation, axiom, sorry.
-/
import Derived.Test.YtmcnoekpblkpdaaDoorRows
import GoSem.ClaimSeven
namespace Go.Proofs.YtmcnoekpblkpdaaDoor
namespace Rows

/-- THE TIED CARD OF 'venduelaw03.SectorReads'. -/
def sectorReadsCard : Claim7 := { stood := { row := sectorReadsRow, standIns := [], harness := (true, "141bbec8f26e7718d59f5be57ba62b1dc80d8234d627a7749bd1eb488f686814"), looks := false }, kinds := [], alts := [], laidByText := true, laidKinds := [.data, .pinned], laidTests := true, laidLooks := .later }
def SectorReadsCardSaid : Prop := Claim7.holds Tryd.pinned (.plain (OpenSpec.ofChange sectorReadsSpec)) sectorReadsCard

/-- THE TIED CARD OF 'venduelaw03.SectorBack'. -/
def sectorBackCard : Claim7 := { stood := { row := sectorBackRow, standIns := [], harness := (true, "141bbec8f26e7718d59f5be57ba62b1dc80d8234d627a7749bd1eb488f686814"), looks := false }, kinds := [], alts := [], laidByText := true, laidKinds := [.data, .pinned], laidTests := true, laidLooks := .later }
def SectorBackCardSaid : Prop := Claim7.holds Tryd.pinned (.plain (OpenSpec.ofChange sectorBackSpec)) sectorBackCard

/-- THE TIED CARD OF 'venduelaw03.SectorTorn'. -/
def sectorTornCard : Claim7 := { stood := { row := sectorTornRow, standIns := [], harness := (true, "141bbec8f26e7718d59f5be57ba62b1dc80d8234d627a7749bd1eb488f686814"), looks := false }, kinds := [], alts := [], laidByText := true, laidKinds := [.data, .pinned], laidTests := true, laidLooks := .later }
def SectorTornCardSaid : Prop := Claim7.holds Tryd.pinned (.plain (OpenSpec.ofChange sectorTornSpec)) sectorTornCard

/-- THE TIED CARD OF 'venduelaw03.SectorEnds'. -/
def sectorEndsCard : Claim7 := { stood := { row := sectorEndsRow, standIns := [], harness := (true, "141bbec8f26e7718d59f5be57ba62b1dc80d8234d627a7749bd1eb488f686814"), looks := false }, kinds := [], alts := [], laidByText := true, laidKinds := [.data, .pinned], laidTests := true, laidLooks := .later }
def SectorEndsCardSaid : Prop := Claim7.holds Tryd.pinned (.plain (OpenSpec.ofChange sectorEndsSpec)) sectorEndsCard

/-- THE TIED CARD OF 'venduelaw03.SectorMakes'. -/
def sectorMakesCard : Claim7 := { stood := { row := sectorMakesRow, standIns := [], harness := (true, "141bbec8f26e7718d59f5be57ba62b1dc80d8234d627a7749bd1eb488f686814"), looks := false }, kinds := [], alts := [], laidByText := true, laidKinds := [.data, .pinned], laidTests := true, laidLooks := .later }
def SectorMakesCardSaid : Prop := Claim7.holds Tryd.pinned (.plain (OpenSpec.ofChange sectorMakesSpec)) sectorMakesCard

/-- THE TIED CARD OF 'venduelaw03.SectorOrder'. -/
def sectorOrderCard : Claim7 := { stood := { row := sectorOrderRow, standIns := [], harness := (true, "141bbec8f26e7718d59f5be57ba62b1dc80d8234d627a7749bd1eb488f686814"), looks := false }, kinds := [], alts := [], laidByText := true, laidKinds := [.data, .pinned], laidTests := true, laidLooks := .later }
def SectorOrderCardSaid : Prop := Claim7.holds Tryd.pinned (.plain (OpenSpec.ofChange sectorOrderSpec)) sectorOrderCard

/-- THE SECOND FORM's CARD OF 'venduelaw03.SectorReads'. -/
def sectorReadsUptoCard : Claim7 := { stood := { row := sectorReadsUptoRow, standIns := [], harness := (true, "141bbec8f26e7718d59f5be57ba62b1dc80d8234d627a7749bd1eb488f686814"), looks := false }, kinds := [], alts := [], laidByText := true, laidKinds := [.data, .pinned], laidTests := true, laidLooks := .later }
def SectorReadsUptoCardSaid : Prop := Claim7.holds Tryd.pinned (.plain (OpenSpec.upto sectorReadsSpec)) sectorReadsUptoCard

/-- THE SECOND FORM's CARD OF 'venduelaw03.SectorBack'. -/
def sectorBackUptoCard : Claim7 := { stood := { row := sectorBackUptoRow, standIns := [], harness := (true, "141bbec8f26e7718d59f5be57ba62b1dc80d8234d627a7749bd1eb488f686814"), looks := false }, kinds := [], alts := [], laidByText := true, laidKinds := [.data, .pinned], laidTests := true, laidLooks := .later }
def SectorBackUptoCardSaid : Prop := Claim7.holds Tryd.pinned (.plain (OpenSpec.upto sectorBackSpec)) sectorBackUptoCard

/-- THE SECOND FORM's CARD OF 'venduelaw03.SectorTorn'. -/
def sectorTornUptoCard : Claim7 := { stood := { row := sectorTornUptoRow, standIns := [], harness := (true, "141bbec8f26e7718d59f5be57ba62b1dc80d8234d627a7749bd1eb488f686814"), looks := false }, kinds := [], alts := [], laidByText := true, laidKinds := [.data, .pinned], laidTests := true, laidLooks := .later }
def SectorTornUptoCardSaid : Prop := Claim7.holds Tryd.pinned (.plain (OpenSpec.upto sectorTornSpec)) sectorTornUptoCard

/-- THE SECOND FORM's CARD OF 'venduelaw03.SectorEnds'. -/
def sectorEndsUptoCard : Claim7 := { stood := { row := sectorEndsUptoRow, standIns := [], harness := (true, "141bbec8f26e7718d59f5be57ba62b1dc80d8234d627a7749bd1eb488f686814"), looks := false }, kinds := [], alts := [], laidByText := true, laidKinds := [.data, .pinned], laidTests := true, laidLooks := .later }
def SectorEndsUptoCardSaid : Prop := Claim7.holds Tryd.pinned (.plain (OpenSpec.upto sectorEndsSpec)) sectorEndsUptoCard

/-- THE SECOND FORM's CARD OF 'venduelaw03.SectorMakes'. -/
def sectorMakesUptoCard : Claim7 := { stood := { row := sectorMakesUptoRow, standIns := [], harness := (true, "141bbec8f26e7718d59f5be57ba62b1dc80d8234d627a7749bd1eb488f686814"), looks := false }, kinds := [], alts := [], laidByText := true, laidKinds := [.data, .pinned], laidTests := true, laidLooks := .later }
def SectorMakesUptoCardSaid : Prop := Claim7.holds Tryd.pinned (.plain (OpenSpec.upto sectorMakesSpec)) sectorMakesUptoCard

/-- THE SECOND FORM's CARD OF 'venduelaw03.SectorOrder'. -/
def sectorOrderUptoCard : Claim7 := { stood := { row := sectorOrderUptoRow, standIns := [], harness := (true, "141bbec8f26e7718d59f5be57ba62b1dc80d8234d627a7749bd1eb488f686814"), looks := false }, kinds := [], alts := [], laidByText := true, laidKinds := [.data, .pinned], laidTests := true, laidLooks := .later }
def SectorOrderUptoCardSaid : Prop := Claim7.holds Tryd.pinned (.plain (OpenSpec.upto sectorOrderSpec)) sectorOrderUptoCard
end Rows
end Go.Proofs.YtmcnoekpblkpdaaDoor
