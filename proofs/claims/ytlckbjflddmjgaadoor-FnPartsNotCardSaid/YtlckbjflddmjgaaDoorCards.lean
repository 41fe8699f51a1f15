/-
  DERIVED. GIVEN WITH THE SEED: THE CARDS: each row of YtlckbjflddmjgaaDoorRows.lean that lists a variable, with what it lists TIED to the program's text (the seventh form; the later family's looks); each row that meets fmt, with fmt's text TOLD by the authors' own Lean function (tested against real Go, not proved from fmt's source: count such statements apart). THE CARD IS WHAT COUNTS. Prove the row's statement (the work); the ties are given (YtlckbjflddmjgaaDoorTie.lean); close each card by the builder's one call (the guide's Derived/Test/ToyasCard.lean, 'card_holds'). Laid BY PROGRAM, IN A SANDBOX (cutbox-door.mjs). By AI agents, Wed Nov 11 2026. No macro, syntax, notation, axiom, sorry.
-/
import Derived.Test.YtlckbjflddmjgaaDoorRows
import GoSem.ClaimSeven
namespace Go.Proofs.YtlckbjflddmjgaaDoor
namespace Rows

/-- THE TIED CARD OF 'laws.FnParts'. -/
def fnPartsCard : Claim7 := { stood := { row := fnPartsRow, standIns := [], harness := (true, "b5389c8ec99d69486b2349a3ec065abc3517a7f0584836be04a1db0e45c2d1a5"), looks := false }, kinds := [], alts := [], laidByText := true, laidKinds := [.data, .pinned], laidTests := true, laidLooks := .later }
def FnPartsCardSaid : Prop := Claim7.holds Tryd.pinned (.plain (OpenSpec.ofChange fnPartsSpec)) fnPartsCard

/-- THE TIED CARD OF 'laws.FnPartsNot'. -/
def fnPartsNotCard : Claim7 := { stood := { row := fnPartsNotRow, standIns := [], harness := (true, "b5389c8ec99d69486b2349a3ec065abc3517a7f0584836be04a1db0e45c2d1a5"), looks := false }, kinds := [], alts := [], laidByText := true, laidKinds := [.data, .pinned], laidTests := true, laidLooks := .later }
def FnPartsNotCardSaid : Prop := Claim7.holds Tryd.pinned (.plain (OpenSpec.ofChange fnPartsNotSpec)) fnPartsNotCard

/-- THE TIED CARD OF 'laws.FnWithinSelf'. -/
def fnWithinSelfCard : Claim7 := { stood := { row := fnWithinSelfRow, standIns := [], harness := (true, "b5389c8ec99d69486b2349a3ec065abc3517a7f0584836be04a1db0e45c2d1a5"), looks := false }, kinds := [], alts := [], laidByText := true, laidKinds := [.data, .pinned], laidTests := true, laidLooks := .later }
def FnWithinSelfCardSaid : Prop := Claim7.holds Tryd.pinned (.plain (OpenSpec.ofChange fnWithinSelfSpec)) fnWithinSelfCard

/-- THE TIED CARD OF 'laws.FnParent'. -/
def fnParentCard : Claim7 := { stood := { row := fnParentRow, standIns := [], harness := (true, "b5389c8ec99d69486b2349a3ec065abc3517a7f0584836be04a1db0e45c2d1a5"), looks := false }, kinds := [], alts := [], laidByText := true, laidKinds := [.data, .pinned], laidTests := true, laidLooks := .later }
def FnParentCardSaid : Prop := Claim7.holds Tryd.pinned (.plain (OpenSpec.ofChange fnParentSpec)) fnParentCard

/-- THE TIED CARD OF 'laws.FnParentNot'. -/
def fnParentNotCard : Claim7 := { stood := { row := fnParentNotRow, standIns := [], harness := (true, "b5389c8ec99d69486b2349a3ec065abc3517a7f0584836be04a1db0e45c2d1a5"), looks := false }, kinds := [], alts := [], laidByText := true, laidKinds := [.data, .pinned], laidTests := true, laidLooks := .later }
def FnParentNotCardSaid : Prop := Claim7.holds Tryd.pinned (.plain (OpenSpec.ofChange fnParentNotSpec)) fnParentNotCard

/-- THE TIED CARD OF 'laws.FnWithin'. -/
def fnWithinCard : Claim7 := { stood := { row := fnWithinRow, standIns := [], harness := (true, "b5389c8ec99d69486b2349a3ec065abc3517a7f0584836be04a1db0e45c2d1a5"), looks := false }, kinds := [], alts := [], laidByText := true, laidKinds := [.data, .pinned], laidTests := true, laidLooks := .later }
def FnWithinCardSaid : Prop := Claim7.holds Tryd.pinned (.plain (OpenSpec.ofChange fnWithinSpec)) fnWithinCard

/-- THE SECOND FORM's CARD OF 'laws.FnParts'. -/
def fnPartsUptoCard : Claim7 := { stood := { row := fnPartsUptoRow, standIns := [], harness := (true, "b5389c8ec99d69486b2349a3ec065abc3517a7f0584836be04a1db0e45c2d1a5"), looks := false }, kinds := [], alts := [], laidByText := true, laidKinds := [.data, .pinned], laidTests := true, laidLooks := .later }
def FnPartsUptoCardSaid : Prop := Claim7.holds Tryd.pinned (.plain (OpenSpec.upto fnPartsSpec)) fnPartsUptoCard

/-- THE SECOND FORM's CARD OF 'laws.FnPartsNot'. -/
def fnPartsNotUptoCard : Claim7 := { stood := { row := fnPartsNotUptoRow, standIns := [], harness := (true, "b5389c8ec99d69486b2349a3ec065abc3517a7f0584836be04a1db0e45c2d1a5"), looks := false }, kinds := [], alts := [], laidByText := true, laidKinds := [.data, .pinned], laidTests := true, laidLooks := .later }
def FnPartsNotUptoCardSaid : Prop := Claim7.holds Tryd.pinned (.plain (OpenSpec.upto fnPartsNotSpec)) fnPartsNotUptoCard

/-- THE SECOND FORM's CARD OF 'laws.FnWithinSelf'. -/
def fnWithinSelfUptoCard : Claim7 := { stood := { row := fnWithinSelfUptoRow, standIns := [], harness := (true, "b5389c8ec99d69486b2349a3ec065abc3517a7f0584836be04a1db0e45c2d1a5"), looks := false }, kinds := [], alts := [], laidByText := true, laidKinds := [.data, .pinned], laidTests := true, laidLooks := .later }
def FnWithinSelfUptoCardSaid : Prop := Claim7.holds Tryd.pinned (.plain (OpenSpec.upto fnWithinSelfSpec)) fnWithinSelfUptoCard

/-- THE SECOND FORM's CARD OF 'laws.FnParent'. -/
def fnParentUptoCard : Claim7 := { stood := { row := fnParentUptoRow, standIns := [], harness := (true, "b5389c8ec99d69486b2349a3ec065abc3517a7f0584836be04a1db0e45c2d1a5"), looks := false }, kinds := [], alts := [], laidByText := true, laidKinds := [.data, .pinned], laidTests := true, laidLooks := .later }
def FnParentUptoCardSaid : Prop := Claim7.holds Tryd.pinned (.plain (OpenSpec.upto fnParentSpec)) fnParentUptoCard

/-- THE SECOND FORM's CARD OF 'laws.FnParentNot'. -/
def fnParentNotUptoCard : Claim7 := { stood := { row := fnParentNotUptoRow, standIns := [], harness := (true, "b5389c8ec99d69486b2349a3ec065abc3517a7f0584836be04a1db0e45c2d1a5"), looks := false }, kinds := [], alts := [], laidByText := true, laidKinds := [.data, .pinned], laidTests := true, laidLooks := .later }
def FnParentNotUptoCardSaid : Prop := Claim7.holds Tryd.pinned (.plain (OpenSpec.upto fnParentNotSpec)) fnParentNotUptoCard

/-- THE SECOND FORM's CARD OF 'laws.FnWithin'. -/
def fnWithinUptoCard : Claim7 := { stood := { row := fnWithinUptoRow, standIns := [], harness := (true, "b5389c8ec99d69486b2349a3ec065abc3517a7f0584836be04a1db0e45c2d1a5"), looks := false }, kinds := [], alts := [], laidByText := true, laidKinds := [.data, .pinned], laidTests := true, laidLooks := .later }
def FnWithinUptoCardSaid : Prop := Claim7.holds Tryd.pinned (.plain (OpenSpec.upto fnWithinSpec)) fnWithinUptoCard
end Rows
end Go.Proofs.YtlckbjflddmjgaaDoor
