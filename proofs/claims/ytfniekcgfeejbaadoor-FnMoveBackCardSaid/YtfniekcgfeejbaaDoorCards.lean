/-
  DERIVED. GIVEN WITH THE SEED: THE CARDS: each row of YtfniekcgfeejbaaDoorRows.lean that lists a variable, with what it lists TIED to the program's text (the seventh form; the later family's looks); each row that meets fmt, with fmt's text TOLD by the authors' own Lean function (tested against real Go, not proved from fmt's source: count such statements apart). THE CARD IS WHAT COUNTS. Prove the row's statement (the work); the ties are given (YtfniekcgfeejbaaDoorTie.lean); close each card by the builder's one call (the guide's Derived/Test/ToyasCard.lean, 'card_holds'). Laid BY PROGRAM, IN A SANDBOX (cutbox-door.mjs). By AI agents, Wed Nov 11 2026. No macro, syntax, notation, axiom, sorry.
-/
import Derived.Test.YtfniekcgfeejbaaDoorRows
import GoSem.ClaimSeven
namespace Go.Proofs.YtfniekcgfeejbaaDoor
namespace Rows

/-- THE TIED CARD OF 'laws.FnMoveBack'. -/
def fnMoveBackCard : Claim7 := { stood := { row := fnMoveBackRow, standIns := [], harness := (true, "243e2a4c78c73575e25edc0c88cc0eb6c0124905c20f5d414aab037a77866466"), looks := false }, kinds := [], alts := [], laidByText := true, laidKinds := [.data, .pinned], laidTests := true, laidLooks := .later }
def FnMoveBackCardSaid : Prop := Claim7.holds Tryd.pinned (.plain (OpenSpec.ofChange fnMoveBackSpec)) fnMoveBackCard

/-- THE TIED CARD OF 'laws.FnMove'. -/
def fnMoveCard : Claim7 := { stood := { row := fnMoveRow, standIns := [], harness := (true, "243e2a4c78c73575e25edc0c88cc0eb6c0124905c20f5d414aab037a77866466"), looks := false }, kinds := [], alts := [], laidByText := true, laidKinds := [.data, .pinned], laidTests := true, laidLooks := .later }
def FnMoveCardSaid : Prop := Claim7.holds Tryd.pinned (.plain (OpenSpec.ofChange fnMoveSpec)) fnMoveCard

/-- THE SECOND FORM's CARD OF 'laws.FnMoveBack'. -/
def fnMoveBackUptoCard : Claim7 := { stood := { row := fnMoveBackUptoRow, standIns := [], harness := (true, "243e2a4c78c73575e25edc0c88cc0eb6c0124905c20f5d414aab037a77866466"), looks := false }, kinds := [], alts := [], laidByText := true, laidKinds := [.data, .pinned], laidTests := true, laidLooks := .later }
def FnMoveBackUptoCardSaid : Prop := Claim7.holds Tryd.pinned (.plain (OpenSpec.upto fnMoveBackSpec)) fnMoveBackUptoCard

/-- THE SECOND FORM's CARD OF 'laws.FnMove'. -/
def fnMoveUptoCard : Claim7 := { stood := { row := fnMoveUptoRow, standIns := [], harness := (true, "243e2a4c78c73575e25edc0c88cc0eb6c0124905c20f5d414aab037a77866466"), looks := false }, kinds := [], alts := [], laidByText := true, laidKinds := [.data, .pinned], laidTests := true, laidLooks := .later }
def FnMoveUptoCardSaid : Prop := Claim7.holds Tryd.pinned (.plain (OpenSpec.upto fnMoveSpec)) fnMoveUptoCard
end Rows
end Go.Proofs.YtfniekcgfeejbaaDoor
