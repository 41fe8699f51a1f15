/-
  DERIVED. GIVEN WITH THE SEED: THE CARDS: each row of YtpnkfbpecafkkaaDoorRows.lean that lists a variable, with what it lists TIED to the program's text (the seventh form; the later family's looks); each row that meets fmt, with fmt's text TOLD by the authors' own Lean function (tested against real Go, not proved from fmt's source: count such statements apart). THE CARD IS WHAT COUNTS. Prove the row's statement (the work); the ties are given (YtpnkfbpecafkkaaDoorTie.lean); close each card by the builder's one call (the guide's Derived/Test/ToyasCard.lean, 'card_holds'). Laid BY PROGRAM, IN A SANDBOX (cutbox-door.mjs). By AI agents, Wed Nov 11 2026. No macro, syntax, notation, axiom, sorry.
-/
import Derived.Test.YtpnkfbpecafkkaaDoorRows
import GoSem.ClaimSeven
namespace Go.Proofs.YtpnkfbpecafkkaaDoor
namespace Rows

/-- THE TIED CARD OF 'laws.FnExactPathValid'. -/
def fnExactPathValidCard : Claim7 := { stood := { row := fnExactPathValidRow, standIns := [], harness := (true, "2d636b4933876bf2d0cff565dc8ac18fa9f86d8ebf93c7ba98d5eee98144d64b"), looks := false }, kinds := [], alts := [], laidByText := true, laidKinds := [.data, .pinned], laidTests := true, laidLooks := .later }
def FnExactPathValidCardSaid : Prop := Claim7.holds Tryd.pinned (.plain (OpenSpec.ofChange fnExactPathValidSpec)) fnExactPathValidCard

/-- THE TIED CARD OF 'laws.FnExactPathWithin'. -/
def fnExactPathWithinCard : Claim7 := { stood := { row := fnExactPathWithinRow, standIns := [], harness := (true, "2d636b4933876bf2d0cff565dc8ac18fa9f86d8ebf93c7ba98d5eee98144d64b"), looks := false }, kinds := [], alts := [], laidByText := true, laidKinds := [.data, .pinned], laidTests := true, laidLooks := .later }
def FnExactPathWithinCardSaid : Prop := Claim7.holds Tryd.pinned (.plain (OpenSpec.ofChange fnExactPathWithinSpec)) fnExactPathWithinCard

/-- THE TIED CARD OF 'laws.FnExactPathParent'. -/
def fnExactPathParentCard : Claim7 := { stood := { row := fnExactPathParentRow, standIns := [], harness := (true, "2d636b4933876bf2d0cff565dc8ac18fa9f86d8ebf93c7ba98d5eee98144d64b"), looks := false }, kinds := [], alts := [], laidByText := true, laidKinds := [.data, .pinned], laidTests := true, laidLooks := .later }
def FnExactPathParentCardSaid : Prop := Claim7.holds Tryd.pinned (.plain (OpenSpec.ofChange fnExactPathParentSpec)) fnExactPathParentCard

/-- THE TIED CARD OF 'laws.FnExactPathParts'. -/
def fnExactPathPartsCard : Claim7 := { stood := { row := fnExactPathPartsRow, standIns := [], harness := (true, "2d636b4933876bf2d0cff565dc8ac18fa9f86d8ebf93c7ba98d5eee98144d64b"), looks := false }, kinds := [], alts := [], laidByText := true, laidKinds := [.data, .pinned], laidTests := true, laidLooks := .later }
def FnExactPathPartsCardSaid : Prop := Claim7.holds Tryd.pinned (.plain (OpenSpec.ofChange fnExactPathPartsSpec)) fnExactPathPartsCard

/-- THE TIED CARD OF 'laws.FnExactPathMove'. -/
def fnExactPathMoveCard : Claim7 := { stood := { row := fnExactPathMoveRow, standIns := [], harness := (true, "2d636b4933876bf2d0cff565dc8ac18fa9f86d8ebf93c7ba98d5eee98144d64b"), looks := false }, kinds := [], alts := [], laidByText := true, laidKinds := [.data, .pinned], laidTests := true, laidLooks := .later }
def FnExactPathMoveCardSaid : Prop := Claim7.holds Tryd.pinned (.plain (OpenSpec.ofChange fnExactPathMoveSpec)) fnExactPathMoveCard

/-- THE SECOND FORM's CARD OF 'laws.FnExactPathValid'. -/
def fnExactPathValidUptoCard : Claim7 := { stood := { row := fnExactPathValidUptoRow, standIns := [], harness := (true, "2d636b4933876bf2d0cff565dc8ac18fa9f86d8ebf93c7ba98d5eee98144d64b"), looks := false }, kinds := [], alts := [], laidByText := true, laidKinds := [.data, .pinned], laidTests := true, laidLooks := .later }
def FnExactPathValidUptoCardSaid : Prop := Claim7.holds Tryd.pinned (.plain (OpenSpec.upto fnExactPathValidSpec)) fnExactPathValidUptoCard

/-- THE SECOND FORM's CARD OF 'laws.FnExactPathWithin'. -/
def fnExactPathWithinUptoCard : Claim7 := { stood := { row := fnExactPathWithinUptoRow, standIns := [], harness := (true, "2d636b4933876bf2d0cff565dc8ac18fa9f86d8ebf93c7ba98d5eee98144d64b"), looks := false }, kinds := [], alts := [], laidByText := true, laidKinds := [.data, .pinned], laidTests := true, laidLooks := .later }
def FnExactPathWithinUptoCardSaid : Prop := Claim7.holds Tryd.pinned (.plain (OpenSpec.upto fnExactPathWithinSpec)) fnExactPathWithinUptoCard

/-- THE SECOND FORM's CARD OF 'laws.FnExactPathParent'. -/
def fnExactPathParentUptoCard : Claim7 := { stood := { row := fnExactPathParentUptoRow, standIns := [], harness := (true, "2d636b4933876bf2d0cff565dc8ac18fa9f86d8ebf93c7ba98d5eee98144d64b"), looks := false }, kinds := [], alts := [], laidByText := true, laidKinds := [.data, .pinned], laidTests := true, laidLooks := .later }
def FnExactPathParentUptoCardSaid : Prop := Claim7.holds Tryd.pinned (.plain (OpenSpec.upto fnExactPathParentSpec)) fnExactPathParentUptoCard

/-- THE SECOND FORM's CARD OF 'laws.FnExactPathParts'. -/
def fnExactPathPartsUptoCard : Claim7 := { stood := { row := fnExactPathPartsUptoRow, standIns := [], harness := (true, "2d636b4933876bf2d0cff565dc8ac18fa9f86d8ebf93c7ba98d5eee98144d64b"), looks := false }, kinds := [], alts := [], laidByText := true, laidKinds := [.data, .pinned], laidTests := true, laidLooks := .later }
def FnExactPathPartsUptoCardSaid : Prop := Claim7.holds Tryd.pinned (.plain (OpenSpec.upto fnExactPathPartsSpec)) fnExactPathPartsUptoCard

/-- THE SECOND FORM's CARD OF 'laws.FnExactPathMove'. -/
def fnExactPathMoveUptoCard : Claim7 := { stood := { row := fnExactPathMoveUptoRow, standIns := [], harness := (true, "2d636b4933876bf2d0cff565dc8ac18fa9f86d8ebf93c7ba98d5eee98144d64b"), looks := false }, kinds := [], alts := [], laidByText := true, laidKinds := [.data, .pinned], laidTests := true, laidLooks := .later }
def FnExactPathMoveUptoCardSaid : Prop := Claim7.holds Tryd.pinned (.plain (OpenSpec.upto fnExactPathMoveSpec)) fnExactPathMoveUptoCard
end Rows
end Go.Proofs.YtpnkfbpecafkkaaDoor
