/-
  NARROWER THAN 'FOR EVERY INPUT', by the rows' own cells (each row's printed sentence says how): FnExactPathValid: laid · FnExactPathWithin: laid · FnExactPathParent: laid · FnExactPathParts: laid · FnExactPathMove: laid.
  DERIVED. THE GIVEN ROWS OF THIS SEAT. 5 by the template 'for every input the law returns true; each argument reads behind the call as it read before'; 0 by the template 'total and deterministic' (their statements: YtpnkfbpecafkkaaDoorTotals.lean).
  GIVEN WITH THE SEED: the statements are not yours to turn. If you find one false, say at which input.
  Laid BY PROGRAM, IN A SANDBOX (cutbox-rows.mjs): the forced cells as the released guide's own fill.sh prints them over the translation 0566a2fcc4381038… (all of the seat's roots in one cut). By AI agents, Wed Nov 11 2026. No macro, syntax, notation, axiom, sorry.
-/
import Derived.Test.YtpnkfbpecafkkaaDoorChecked
import GoSem.PinnedTables
import GoSem.Claim
import GoSem.ClaimJoined
import GoSem.ClaimMapViews
import Derived.JoinedTies
import Derived.KernelRfl
namespace Go.Proofs.YtpnkfbpecafkkaaDoor
/- THE CELL 'sum', in the pinned program and in every row, IS THE sha256 OF THE DUMP (.gsa) THAT YtpnkfbpecafkkaaDoorProg.lean LOADS. Nothing in Lean hashes anything: it is a label: what it is worth is what the hold of that sum in a sandbox is worth. -/
noncomputable def Tryd.pinned : Pinned := { name := "ytpnkfbpecafkkaadoor", sum := "0566a2fcc438103833dea7a0d56833726cb49fdf9a2c2fe23da165cc75158f9b", checked := Tryd.checked }
namespace Rows
def none {H : Type} : Left H := { results := [], args := [] }

/- WHAT THE LISTED PACKAGE-LEVEL VARIABLES READ AS WHEN THE CALL BEGINS. Each datum BY PROGRAM (the guide's laid-datum.mjs) off the statement by which the dump's own 'gosem.cut.vars' lays the variable. In a bare row this is a premise. The card (YtpnkfbpecafkkaaDoorCards.lean) ties it to the program's text. -/
def laid_unicode_utf8_acceptRanges {H : Type} : DataW H := .agg [.agg [.lit (.int .u8 128), .lit (.int .u8 191)], .agg [.lit (.int .u8 160), .lit (.int .u8 191)], .agg [.lit (.int .u8 128), .lit (.int .u8 159)], .agg [.lit (.int .u8 144), .lit (.int .u8 191)], .agg [.lit (.int .u8 128), .lit (.int .u8 143)], .agg [.lit (.int .u8 0), .lit (.int .u8 0)], .agg [.lit (.int .u8 0), .lit (.int .u8 0)], .agg [.lit (.int .u8 0), .lit (.int .u8 0)], .agg [.lit (.int .u8 0), .lit (.int .u8 0)], .agg [.lit (.int .u8 0), .lit (.int .u8 0)], .agg [.lit (.int .u8 0), .lit (.int .u8 0)], .agg [.lit (.int .u8 0), .lit (.int .u8 0)], .agg [.lit (.int .u8 0), .lit (.int .u8 0)], .agg [.lit (.int .u8 0), .lit (.int .u8 0)], .agg [.lit (.int .u8 0), .lit (.int .u8 0)], .agg [.lit (.int .u8 0), .lit (.int .u8 0)]]
/-- One of Go's own tables, pinned by name: the form's constant. -/
def laid_unicode_utf8_first : DataW Unit := Go.Pinned.utf8First

/-- 'laws.FnExactPathValid': WHATEVER THE INPUT: true; the input reads as it did. -/
def fnExactPathValidSpec : ChangeSpec := { name := "fnExactPathValid", fn := fun _ => fun
  | [d] => { results := [.lit (.bool true)], args := [d] }
  | _ => none }
def fnExactPathValidRow : OpenClaim := { program := "ytpnkfbpecafkkaadoor", sum := "0566a2fcc438103833dea7a0d56833726cb49fdf9a2c2fe23da165cc75158f9b", func := "loop.example/snapshotfiles/laws.FnExactPathValid", spec := "fnExactPathValid", inPlace := ["internal/bytealg.CountString", "internal/bytealg.IndexByteString", "internal/bytealg.IndexString"], named := ["unicode/utf8.first", "unicode/utf8.acceptRanges", "internal/bytealg.MaxLen"], apart := false, laid := [("unicode/utf8.acceptRanges", laid_unicode_utf8_acceptRanges), ("unicode/utf8.first", laid_unicode_utf8_first)] }
def FnExactPathValidSaid : Prop := fnExactPathValidRow.holds Tryd.pinned (OpenSpec.ofChange fnExactPathValidSpec)

/-- ITS FALSE NEIGHBOUR: 'it returns false'. Refute it at one input. -/
def fnExactPathValidWrong : ChangeSpec := { name := "fnExactPathValid", fn := fun _ => fun
  | [d] => { results := [.lit (.bool false)], args := [d] }
  | _ => none }
def FnExactPathValidWrongFalsely : Prop := fnExactPathValidRow.holds Tryd.pinned (OpenSpec.ofChange fnExactPathValidWrong)

/-- 'laws.FnExactPathWithin': WHATEVER THE INPUT: true; the input reads as it did. -/
def fnExactPathWithinSpec : ChangeSpec := { name := "fnExactPathWithin", fn := fun _ => fun
  | [d1, d2] => { results := [.lit (.bool true)], args := [d1, d2] }
  | _ => none }
def fnExactPathWithinRow : OpenClaim := { program := "ytpnkfbpecafkkaadoor", sum := "0566a2fcc438103833dea7a0d56833726cb49fdf9a2c2fe23da165cc75158f9b", func := "loop.example/snapshotfiles/laws.FnExactPathWithin", spec := "fnExactPathWithin", inPlace := ["internal/bytealg.CountString", "internal/bytealg.IndexByteString", "internal/bytealg.IndexString"], named := ["unicode/utf8.first", "unicode/utf8.acceptRanges", "internal/bytealg.MaxLen"], apart := false, laid := [("unicode/utf8.acceptRanges", laid_unicode_utf8_acceptRanges), ("unicode/utf8.first", laid_unicode_utf8_first)] }
def FnExactPathWithinSaid : Prop := fnExactPathWithinRow.holds Tryd.pinned (OpenSpec.ofChange fnExactPathWithinSpec)

/-- ITS FALSE NEIGHBOUR: 'it returns false'. Refute it at one input. -/
def fnExactPathWithinWrong : ChangeSpec := { name := "fnExactPathWithin", fn := fun _ => fun
  | [d1, d2] => { results := [.lit (.bool false)], args := [d1, d2] }
  | _ => none }
def FnExactPathWithinWrongFalsely : Prop := fnExactPathWithinRow.holds Tryd.pinned (OpenSpec.ofChange fnExactPathWithinWrong)

/-- 'laws.FnExactPathParent': WHATEVER THE INPUT: true; the input reads as it did. -/
def fnExactPathParentSpec : ChangeSpec := { name := "fnExactPathParent", fn := fun _ => fun
  | [d] => { results := [.lit (.bool true)], args := [d] }
  | _ => none }
def fnExactPathParentRow : OpenClaim := { program := "ytpnkfbpecafkkaadoor", sum := "0566a2fcc438103833dea7a0d56833726cb49fdf9a2c2fe23da165cc75158f9b", func := "loop.example/snapshotfiles/laws.FnExactPathParent", spec := "fnExactPathParent", inPlace := ["internal/bytealg.CountString", "internal/bytealg.IndexByteString", "internal/bytealg.IndexString"], named := ["unicode/utf8.first", "unicode/utf8.acceptRanges", "internal/bytealg.MaxLen"], apart := false, laid := [("unicode/utf8.acceptRanges", laid_unicode_utf8_acceptRanges), ("unicode/utf8.first", laid_unicode_utf8_first)] }
def FnExactPathParentSaid : Prop := fnExactPathParentRow.holds Tryd.pinned (OpenSpec.ofChange fnExactPathParentSpec)

/-- ITS FALSE NEIGHBOUR: 'it returns false'. Refute it at one input. -/
def fnExactPathParentWrong : ChangeSpec := { name := "fnExactPathParent", fn := fun _ => fun
  | [d] => { results := [.lit (.bool false)], args := [d] }
  | _ => none }
def FnExactPathParentWrongFalsely : Prop := fnExactPathParentRow.holds Tryd.pinned (OpenSpec.ofChange fnExactPathParentWrong)

/-- 'laws.FnExactPathParts': WHATEVER THE INPUT: true; the input reads as it did. -/
def fnExactPathPartsSpec : ChangeSpec := { name := "fnExactPathParts", fn := fun _ => fun
  | [d] => { results := [.lit (.bool true)], args := [d] }
  | _ => none }
def fnExactPathPartsRow : OpenClaim := { program := "ytpnkfbpecafkkaadoor", sum := "0566a2fcc438103833dea7a0d56833726cb49fdf9a2c2fe23da165cc75158f9b", func := "loop.example/snapshotfiles/laws.FnExactPathParts", spec := "fnExactPathParts", inPlace := ["internal/bytealg.CountString", "internal/bytealg.IndexByteString", "internal/bytealg.IndexString"], named := ["unicode/utf8.first", "unicode/utf8.acceptRanges", "internal/bytealg.MaxLen"], apart := false, laid := [("unicode/utf8.acceptRanges", laid_unicode_utf8_acceptRanges), ("unicode/utf8.first", laid_unicode_utf8_first)] }
def FnExactPathPartsSaid : Prop := fnExactPathPartsRow.holds Tryd.pinned (OpenSpec.ofChange fnExactPathPartsSpec)

/-- ITS FALSE NEIGHBOUR: 'it returns false'. Refute it at one input. -/
def fnExactPathPartsWrong : ChangeSpec := { name := "fnExactPathParts", fn := fun _ => fun
  | [d] => { results := [.lit (.bool false)], args := [d] }
  | _ => none }
def FnExactPathPartsWrongFalsely : Prop := fnExactPathPartsRow.holds Tryd.pinned (OpenSpec.ofChange fnExactPathPartsWrong)

/-- 'laws.FnExactPathMove': WHATEVER THE INPUT: true; the input reads as it did. -/
def fnExactPathMoveSpec : ChangeSpec := { name := "fnExactPathMove", fn := fun _ => fun
  | [d1, d2, d3] => { results := [.lit (.bool true)], args := [d1, d2, d3] }
  | _ => none }
def fnExactPathMoveRow : OpenClaim := { program := "ytpnkfbpecafkkaadoor", sum := "0566a2fcc438103833dea7a0d56833726cb49fdf9a2c2fe23da165cc75158f9b", func := "loop.example/snapshotfiles/laws.FnExactPathMove", spec := "fnExactPathMove", inPlace := ["internal/bytealg.CountString", "internal/bytealg.IndexByteString", "internal/bytealg.IndexString"], named := ["unicode/utf8.first", "unicode/utf8.acceptRanges", "internal/bytealg.MaxLen"], apart := false, laid := [("unicode/utf8.acceptRanges", laid_unicode_utf8_acceptRanges), ("unicode/utf8.first", laid_unicode_utf8_first)] }
def FnExactPathMoveSaid : Prop := fnExactPathMoveRow.holds Tryd.pinned (OpenSpec.ofChange fnExactPathMoveSpec)

/-- ITS FALSE NEIGHBOUR: 'it returns false'. Refute it at one input. -/
def fnExactPathMoveWrong : ChangeSpec := { name := "fnExactPathMove", fn := fun _ => fun
  | [d1, d2, d3] => { results := [.lit (.bool false)], args := [d1, d2, d3] }
  | _ => none }
def FnExactPathMoveWrongFalsely : Prop := fnExactPathMoveRow.holds Tryd.pinned (OpenSpec.ofChange fnExactPathMoveWrong)

/- THE SECOND FORM. 'bulk': how many values and letters a reading holds, each counted each time it is reached (what is shared counts as often as it is met; a slice's spare places count too). A statement '..UptoSaid' is the law's where the arguments, and the package variables that the reading takes, are together of bulk at most 1048576: NARROWER than '..Said'. Prove '..Said' where nothing that the law and all that it calls make is longer than what came in: it says more and counts as full. Else prove '..UptoSaid'. A law counts once. -/
mutual
def uptoBulk {H : Type} : DataW H → Nat
  | .lit (.string bytes) => bytes.length + 1
  | .lit _ => 1
  | .nil => 1
  | .ptr d => uptoBulk d + 1
  | .slice elems spare => uptoBulkAll elems + uptoBulkAll spare + 1
  | .agg parts => uptoBulkAll parts + 1
  | .iface _ d => uptoBulk d + 1
  | .map entries => uptoBulkEntries entries + 1
  | .held _ => 1
def uptoBulkAll {H : Type} : List (DataW H) → Nat
  | [] => 0
  | d :: r => uptoBulk d + uptoBulkAll r
def uptoBulkEntries {H : Type} : List (Lit × DataW H) → Nat
  | [] => 0
  | x :: r => uptoBulkEntry x + uptoBulkEntries r
def uptoBulkEntry {H : Type} : Lit × DataW H → Nat
  | (.string bytes, d) => bytes.length + uptoBulk d + 1
  | (_, d) => uptoBulk d + 1
 end
def uptoSmall : (H : Type) → List (DataW H) → Bool := fun _ ds => decide (uptoBulkAll ds ≤ 1048576)
def OpenSpec.upto (s : _root_.Go.ChangeSpec) : _root_.Go.OpenSpec := { _root_.Go.OpenSpec.ofChange s with cond := some uptoSmall }

/-- 'laws.FnExactPathValid', WHERE WHAT IT READS IS OF BULK AT MOST 1048576: true; the input reads as it did. -/
def fnExactPathValidUptoRow : OpenClaim := { program := "ytpnkfbpecafkkaadoor", sum := "0566a2fcc438103833dea7a0d56833726cb49fdf9a2c2fe23da165cc75158f9b", func := "loop.example/snapshotfiles/laws.FnExactPathValid", spec := "fnExactPathValid", inPlace := ["internal/bytealg.CountString", "internal/bytealg.IndexByteString", "internal/bytealg.IndexString"], named := ["unicode/utf8.first", "unicode/utf8.acceptRanges", "internal/bytealg.MaxLen"], apart := false, laid := [("unicode/utf8.acceptRanges", laid_unicode_utf8_acceptRanges), ("unicode/utf8.first", laid_unicode_utf8_first)], narrowed := true }
def FnExactPathValidUptoSaid : Prop := fnExactPathValidUptoRow.holds Tryd.pinned (OpenSpec.upto fnExactPathValidSpec)

/-- 'laws.FnExactPathWithin', WHERE WHAT IT READS IS OF BULK AT MOST 1048576: true; the input reads as it did. -/
def fnExactPathWithinUptoRow : OpenClaim := { program := "ytpnkfbpecafkkaadoor", sum := "0566a2fcc438103833dea7a0d56833726cb49fdf9a2c2fe23da165cc75158f9b", func := "loop.example/snapshotfiles/laws.FnExactPathWithin", spec := "fnExactPathWithin", inPlace := ["internal/bytealg.CountString", "internal/bytealg.IndexByteString", "internal/bytealg.IndexString"], named := ["unicode/utf8.first", "unicode/utf8.acceptRanges", "internal/bytealg.MaxLen"], apart := false, laid := [("unicode/utf8.acceptRanges", laid_unicode_utf8_acceptRanges), ("unicode/utf8.first", laid_unicode_utf8_first)], narrowed := true }
def FnExactPathWithinUptoSaid : Prop := fnExactPathWithinUptoRow.holds Tryd.pinned (OpenSpec.upto fnExactPathWithinSpec)

/-- 'laws.FnExactPathParent', WHERE WHAT IT READS IS OF BULK AT MOST 1048576: true; the input reads as it did. -/
def fnExactPathParentUptoRow : OpenClaim := { program := "ytpnkfbpecafkkaadoor", sum := "0566a2fcc438103833dea7a0d56833726cb49fdf9a2c2fe23da165cc75158f9b", func := "loop.example/snapshotfiles/laws.FnExactPathParent", spec := "fnExactPathParent", inPlace := ["internal/bytealg.CountString", "internal/bytealg.IndexByteString", "internal/bytealg.IndexString"], named := ["unicode/utf8.first", "unicode/utf8.acceptRanges", "internal/bytealg.MaxLen"], apart := false, laid := [("unicode/utf8.acceptRanges", laid_unicode_utf8_acceptRanges), ("unicode/utf8.first", laid_unicode_utf8_first)], narrowed := true }
def FnExactPathParentUptoSaid : Prop := fnExactPathParentUptoRow.holds Tryd.pinned (OpenSpec.upto fnExactPathParentSpec)

/-- 'laws.FnExactPathParts', WHERE WHAT IT READS IS OF BULK AT MOST 1048576: true; the input reads as it did. -/
def fnExactPathPartsUptoRow : OpenClaim := { program := "ytpnkfbpecafkkaadoor", sum := "0566a2fcc438103833dea7a0d56833726cb49fdf9a2c2fe23da165cc75158f9b", func := "loop.example/snapshotfiles/laws.FnExactPathParts", spec := "fnExactPathParts", inPlace := ["internal/bytealg.CountString", "internal/bytealg.IndexByteString", "internal/bytealg.IndexString"], named := ["unicode/utf8.first", "unicode/utf8.acceptRanges", "internal/bytealg.MaxLen"], apart := false, laid := [("unicode/utf8.acceptRanges", laid_unicode_utf8_acceptRanges), ("unicode/utf8.first", laid_unicode_utf8_first)], narrowed := true }
def FnExactPathPartsUptoSaid : Prop := fnExactPathPartsUptoRow.holds Tryd.pinned (OpenSpec.upto fnExactPathPartsSpec)

/-- 'laws.FnExactPathMove', WHERE WHAT IT READS IS OF BULK AT MOST 1048576: true; the input reads as it did. -/
def fnExactPathMoveUptoRow : OpenClaim := { program := "ytpnkfbpecafkkaadoor", sum := "0566a2fcc438103833dea7a0d56833726cb49fdf9a2c2fe23da165cc75158f9b", func := "loop.example/snapshotfiles/laws.FnExactPathMove", spec := "fnExactPathMove", inPlace := ["internal/bytealg.CountString", "internal/bytealg.IndexByteString", "internal/bytealg.IndexString"], named := ["unicode/utf8.first", "unicode/utf8.acceptRanges", "internal/bytealg.MaxLen"], apart := false, laid := [("unicode/utf8.acceptRanges", laid_unicode_utf8_acceptRanges), ("unicode/utf8.first", laid_unicode_utf8_first)], narrowed := true }
def FnExactPathMoveUptoSaid : Prop := fnExactPathMoveUptoRow.holds Tryd.pinned (OpenSpec.upto fnExactPathMoveSpec)

end Rows
end Go.Proofs.YtpnkfbpecafkkaaDoor
