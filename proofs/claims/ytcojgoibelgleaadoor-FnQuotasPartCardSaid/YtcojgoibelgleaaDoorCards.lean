/-
  DERIVED. GIVEN WITH THE SEED: THE CARDS: each row of YtcojgoibelgleaaDoorRows.lean that lists a variable, with what it lists TIED to the program's text (the seventh form; the later family's looks); each row that meets fmt, with fmt's text TOLD by the authors' own Lean function (tested against real Go, not proved from fmt's source: count such statements apart). THE CARD IS WHAT COUNTS. Prove the row's statement (the work); the ties are given (YtcojgoibelgleaaDoorTie.lean); close each card by the builder's one call (the guide's Derived/Test/ToyasCard.lean, 'card_holds'). Laid BY PROGRAM, IN A SANDBOX (cutbox-door.mjs). By AI agents, Wed Nov 11 2026. No macro, syntax, notation, axiom, sorry.
-/
import Derived.Test.YtcojgoibelgleaaDoorRows
import GoSem.ClaimSeven
namespace Go.Proofs.YtcojgoibelgleaaDoor
namespace Rows

/-- THE TIED CARD OF 'laws.FnQuotasPart'. -/
def fnQuotasPartCard : Claim7 := { stood := { row := fnQuotasPartRow, standIns := [], harness := (true, "3dd45157ce5e445b233668f81ffb5c42d844c9873b8c7819df482faf6c3356c3"), looks := false }, kinds := [], alts := [], laidByText := true, laidKinds := [.data, .pinned], laidTests := true, laidLooks := .later }
def FnQuotasPartCardSaid : Prop := Claim7.holds Tryd.pinned (.plain (OpenSpec.ofChange fnQuotasPartSpec)) fnQuotasPartCard

/-- THE TIED CARD OF 'laws.FnExactQuotasValid'. -/
def fnExactQuotasValidCard : Claim7 := { stood := { row := fnExactQuotasValidRow, standIns := [], harness := (true, "3dd45157ce5e445b233668f81ffb5c42d844c9873b8c7819df482faf6c3356c3"), looks := false }, kinds := [], alts := [], laidByText := true, laidKinds := [.data, .pinned], laidTests := true, laidLooks := .later }
def FnExactQuotasValidCardSaid : Prop := Claim7.holds Tryd.pinned (.plain (OpenSpec.ofChange fnExactQuotasValidSpec)) fnExactQuotasValidCard

/-- THE SECOND FORM's CARD OF 'laws.FnQuotasPart'. -/
def fnQuotasPartUptoCard : Claim7 := { stood := { row := fnQuotasPartUptoRow, standIns := [], harness := (true, "3dd45157ce5e445b233668f81ffb5c42d844c9873b8c7819df482faf6c3356c3"), looks := false }, kinds := [], alts := [], laidByText := true, laidKinds := [.data, .pinned], laidTests := true, laidLooks := .later }
def FnQuotasPartUptoCardSaid : Prop := Claim7.holds Tryd.pinned (.plain (OpenSpec.upto fnQuotasPartSpec)) fnQuotasPartUptoCard

/-- THE SECOND FORM's CARD OF 'laws.FnExactQuotasValid'. -/
def fnExactQuotasValidUptoCard : Claim7 := { stood := { row := fnExactQuotasValidUptoRow, standIns := [], harness := (true, "3dd45157ce5e445b233668f81ffb5c42d844c9873b8c7819df482faf6c3356c3"), looks := false }, kinds := [], alts := [], laidByText := true, laidKinds := [.data, .pinned], laidTests := true, laidLooks := .later }
def FnExactQuotasValidUptoCardSaid : Prop := Claim7.holds Tryd.pinned (.plain (OpenSpec.upto fnExactQuotasValidSpec)) fnExactQuotasValidUptoCard
end Rows
end Go.Proofs.YtcojgoibelgleaaDoor
