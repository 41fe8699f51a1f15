/-
  NARROWER THAN 'FOR EVERY INPUT', by the rows' own cells (each row's printed sentence says how): FnParts: laid · FnPartsNot: laid · FnWithinSelf: laid · FnParent: laid · FnParentNot: laid · FnWithin: laid.
  DERIVED. THE GIVEN ROWS OF THIS SEAT. 6 by the template 'for every input the law returns true; each argument reads behind the call as it read before'; 0 by the template 'total and deterministic' (their statements: YtlckbjflddmjgaaDoorTotals.lean).
  GIVEN WITH THE SEED: the statements are not yours to turn. If you find one false, say at which input.
  Laid BY PROGRAM, IN A SANDBOX (cutbox-rows.mjs): the forced cells as the released guide's own fill.sh prints them over the translation a5778eb98bc97a0b… (all of the seat's roots in one cut). By AI agents, Wed Nov 11 2026. No macro, syntax, notation, axiom, sorry.
-/
import Derived.Test.YtlckbjflddmjgaaDoorChecked
import GoSem.PinnedTables
import GoSem.Claim
import GoSem.ClaimJoined
import GoSem.ClaimMapViews
import Derived.JoinedTies
import Derived.KernelRfl
namespace Go.Proofs.YtlckbjflddmjgaaDoor
/- THE CELL 'sum', in the pinned program and in every row, IS THE sha256 OF THE DUMP (.gsa) THAT YtlckbjflddmjgaaDoorProg.lean LOADS. Nothing in Lean hashes anything: it is a label: what it is worth is what the hold of that sum in a sandbox is worth. -/
noncomputable def Tryd.pinned : Pinned := { name := "ytlckbjflddmjgaadoor", sum := "a5778eb98bc97a0b86338b60e9d0be1fd021caeaef34f5d0de792a53af1beb2d", checked := Tryd.checked }
namespace Rows
def none {H : Type} : Left H := { results := [], args := [] }

/- WHAT THE LISTED PACKAGE-LEVEL VARIABLES READ AS WHEN THE CALL BEGINS. Each datum BY PROGRAM (the guide's laid-datum.mjs) off the statement by which the dump's own 'gosem.cut.vars' lays the variable. In a bare row this is a premise. The card (YtlckbjflddmjgaaDoorCards.lean) ties it to the program's text. -/
def laid_unicode_utf8_acceptRanges {H : Type} : DataW H := .agg [.agg [.lit (.int .u8 128), .lit (.int .u8 191)], .agg [.lit (.int .u8 160), .lit (.int .u8 191)], .agg [.lit (.int .u8 128), .lit (.int .u8 159)], .agg [.lit (.int .u8 144), .lit (.int .u8 191)], .agg [.lit (.int .u8 128), .lit (.int .u8 143)], .agg [.lit (.int .u8 0), .lit (.int .u8 0)], .agg [.lit (.int .u8 0), .lit (.int .u8 0)], .agg [.lit (.int .u8 0), .lit (.int .u8 0)], .agg [.lit (.int .u8 0), .lit (.int .u8 0)], .agg [.lit (.int .u8 0), .lit (.int .u8 0)], .agg [.lit (.int .u8 0), .lit (.int .u8 0)], .agg [.lit (.int .u8 0), .lit (.int .u8 0)], .agg [.lit (.int .u8 0), .lit (.int .u8 0)], .agg [.lit (.int .u8 0), .lit (.int .u8 0)], .agg [.lit (.int .u8 0), .lit (.int .u8 0)], .agg [.lit (.int .u8 0), .lit (.int .u8 0)]]
/-- One of Go's own tables, pinned by name: the form's constant. -/
def laid_unicode_utf8_first : DataW Unit := Go.Pinned.utf8First

/-- 'laws.FnParts': WHATEVER THE INPUT: true; the input reads as it did. -/
def fnPartsSpec : ChangeSpec := { name := "fnParts", fn := fun _ => fun
  | [d] => { results := [.lit (.bool true)], args := [d] }
  | _ => none }
def fnPartsRow : OpenClaim := { program := "ytlckbjflddmjgaadoor", sum := "a5778eb98bc97a0b86338b60e9d0be1fd021caeaef34f5d0de792a53af1beb2d", func := "loop.example/snapshotfiles/laws.FnParts", spec := "fnParts", inPlace := ["internal/bytealg.CountString", "internal/bytealg.IndexByteString", "internal/bytealg.IndexString"], named := ["unicode/utf8.first", "unicode/utf8.acceptRanges", "internal/bytealg.MaxLen"], apart := false, laid := [("unicode/utf8.acceptRanges", laid_unicode_utf8_acceptRanges), ("unicode/utf8.first", laid_unicode_utf8_first)] }
def FnPartsSaid : Prop := fnPartsRow.holds Tryd.pinned (OpenSpec.ofChange fnPartsSpec)

/-- ITS FALSE NEIGHBOUR: 'it returns false'. Refute it at one input. -/
def fnPartsWrong : ChangeSpec := { name := "fnParts", fn := fun _ => fun
  | [d] => { results := [.lit (.bool false)], args := [d] }
  | _ => none }
def FnPartsWrongFalsely : Prop := fnPartsRow.holds Tryd.pinned (OpenSpec.ofChange fnPartsWrong)

/-- 'laws.FnPartsNot': WHATEVER THE INPUT: true; the input reads as it did. -/
def fnPartsNotSpec : ChangeSpec := { name := "fnPartsNot", fn := fun _ => fun
  | [d] => { results := [.lit (.bool true)], args := [d] }
  | _ => none }
def fnPartsNotRow : OpenClaim := { program := "ytlckbjflddmjgaadoor", sum := "a5778eb98bc97a0b86338b60e9d0be1fd021caeaef34f5d0de792a53af1beb2d", func := "loop.example/snapshotfiles/laws.FnPartsNot", spec := "fnPartsNot", inPlace := ["internal/bytealg.CountString", "internal/bytealg.IndexByteString", "internal/bytealg.IndexString"], named := ["unicode/utf8.first", "unicode/utf8.acceptRanges", "internal/bytealg.MaxLen"], apart := false, laid := [("unicode/utf8.acceptRanges", laid_unicode_utf8_acceptRanges), ("unicode/utf8.first", laid_unicode_utf8_first)] }
def FnPartsNotSaid : Prop := fnPartsNotRow.holds Tryd.pinned (OpenSpec.ofChange fnPartsNotSpec)

/-- ITS FALSE NEIGHBOUR: 'it returns false'. Refute it at one input. -/
def fnPartsNotWrong : ChangeSpec := { name := "fnPartsNot", fn := fun _ => fun
  | [d] => { results := [.lit (.bool false)], args := [d] }
  | _ => none }
def FnPartsNotWrongFalsely : Prop := fnPartsNotRow.holds Tryd.pinned (OpenSpec.ofChange fnPartsNotWrong)

/-- 'laws.FnWithinSelf': WHATEVER THE INPUT: true; the input reads as it did. -/
def fnWithinSelfSpec : ChangeSpec := { name := "fnWithinSelf", fn := fun _ => fun
  | [d] => { results := [.lit (.bool true)], args := [d] }
  | _ => none }
def fnWithinSelfRow : OpenClaim := { program := "ytlckbjflddmjgaadoor", sum := "a5778eb98bc97a0b86338b60e9d0be1fd021caeaef34f5d0de792a53af1beb2d", func := "loop.example/snapshotfiles/laws.FnWithinSelf", spec := "fnWithinSelf", inPlace := ["internal/bytealg.CountString", "internal/bytealg.IndexByteString", "internal/bytealg.IndexString"], named := ["unicode/utf8.first", "unicode/utf8.acceptRanges", "internal/bytealg.MaxLen"], apart := false, laid := [("unicode/utf8.acceptRanges", laid_unicode_utf8_acceptRanges), ("unicode/utf8.first", laid_unicode_utf8_first)] }
def FnWithinSelfSaid : Prop := fnWithinSelfRow.holds Tryd.pinned (OpenSpec.ofChange fnWithinSelfSpec)

/-- ITS FALSE NEIGHBOUR: 'it returns false'. Refute it at one input. -/
def fnWithinSelfWrong : ChangeSpec := { name := "fnWithinSelf", fn := fun _ => fun
  | [d] => { results := [.lit (.bool false)], args := [d] }
  | _ => none }
def FnWithinSelfWrongFalsely : Prop := fnWithinSelfRow.holds Tryd.pinned (OpenSpec.ofChange fnWithinSelfWrong)

/-- 'laws.FnParent': WHATEVER THE INPUT: true; the input reads as it did. -/
def fnParentSpec : ChangeSpec := { name := "fnParent", fn := fun _ => fun
  | [d] => { results := [.lit (.bool true)], args := [d] }
  | _ => none }
def fnParentRow : OpenClaim := { program := "ytlckbjflddmjgaadoor", sum := "a5778eb98bc97a0b86338b60e9d0be1fd021caeaef34f5d0de792a53af1beb2d", func := "loop.example/snapshotfiles/laws.FnParent", spec := "fnParent", inPlace := ["internal/bytealg.CountString", "internal/bytealg.IndexByteString", "internal/bytealg.IndexString"], named := ["unicode/utf8.first", "unicode/utf8.acceptRanges", "internal/bytealg.MaxLen"], apart := false, laid := [("unicode/utf8.acceptRanges", laid_unicode_utf8_acceptRanges), ("unicode/utf8.first", laid_unicode_utf8_first)] }
def FnParentSaid : Prop := fnParentRow.holds Tryd.pinned (OpenSpec.ofChange fnParentSpec)

/-- ITS FALSE NEIGHBOUR: 'it returns false'. Refute it at one input. -/
def fnParentWrong : ChangeSpec := { name := "fnParent", fn := fun _ => fun
  | [d] => { results := [.lit (.bool false)], args := [d] }
  | _ => none }
def FnParentWrongFalsely : Prop := fnParentRow.holds Tryd.pinned (OpenSpec.ofChange fnParentWrong)

/-- 'laws.FnParentNot': WHATEVER THE INPUT: true; the input reads as it did. -/
def fnParentNotSpec : ChangeSpec := { name := "fnParentNot", fn := fun _ => fun
  | [d] => { results := [.lit (.bool true)], args := [d] }
  | _ => none }
def fnParentNotRow : OpenClaim := { program := "ytlckbjflddmjgaadoor", sum := "a5778eb98bc97a0b86338b60e9d0be1fd021caeaef34f5d0de792a53af1beb2d", func := "loop.example/snapshotfiles/laws.FnParentNot", spec := "fnParentNot", inPlace := ["internal/bytealg.CountString", "internal/bytealg.IndexByteString", "internal/bytealg.IndexString"], named := ["unicode/utf8.first", "unicode/utf8.acceptRanges", "internal/bytealg.MaxLen"], apart := false, laid := [("unicode/utf8.acceptRanges", laid_unicode_utf8_acceptRanges), ("unicode/utf8.first", laid_unicode_utf8_first)] }
def FnParentNotSaid : Prop := fnParentNotRow.holds Tryd.pinned (OpenSpec.ofChange fnParentNotSpec)

/-- ITS FALSE NEIGHBOUR: 'it returns false'. Refute it at one input. -/
def fnParentNotWrong : ChangeSpec := { name := "fnParentNot", fn := fun _ => fun
  | [d] => { results := [.lit (.bool false)], args := [d] }
  | _ => none }
def FnParentNotWrongFalsely : Prop := fnParentNotRow.holds Tryd.pinned (OpenSpec.ofChange fnParentNotWrong)

/-- 'laws.FnWithin': WHATEVER THE INPUT: true; the input reads as it did. -/
def fnWithinSpec : ChangeSpec := { name := "fnWithin", fn := fun _ => fun
  | [d] => { results := [.lit (.bool true)], args := [d] }
  | _ => none }
def fnWithinRow : OpenClaim := { program := "ytlckbjflddmjgaadoor", sum := "a5778eb98bc97a0b86338b60e9d0be1fd021caeaef34f5d0de792a53af1beb2d", func := "loop.example/snapshotfiles/laws.FnWithin", spec := "fnWithin", inPlace := ["internal/bytealg.CountString", "internal/bytealg.IndexByteString", "internal/bytealg.IndexString"], named := ["unicode/utf8.first", "unicode/utf8.acceptRanges", "internal/bytealg.MaxLen"], apart := false, laid := [("unicode/utf8.acceptRanges", laid_unicode_utf8_acceptRanges), ("unicode/utf8.first", laid_unicode_utf8_first)] }
def FnWithinSaid : Prop := fnWithinRow.holds Tryd.pinned (OpenSpec.ofChange fnWithinSpec)

/-- ITS FALSE NEIGHBOUR: 'it returns false'. Refute it at one input. -/
def fnWithinWrong : ChangeSpec := { name := "fnWithin", fn := fun _ => fun
  | [d] => { results := [.lit (.bool false)], args := [d] }
  | _ => none }
def FnWithinWrongFalsely : Prop := fnWithinRow.holds Tryd.pinned (OpenSpec.ofChange fnWithinWrong)

/- THE SECOND FORM. 'bulk': how many values and letters a reading holds, each counted each time it is reached (what is shared counts as often as it is met; a slice's spare places count too). A statement '..UptoSaid' is the law's where the arguments, and the package variables that the reading takes, are together of bulk at most 1048576: NARROWER than '..Said'. Prove '..Said' where nothing that the law and all that it calls make is longer than what came in: it says more and counts as full. Else prove '..UptoSaid'. A law counts once. -/
mutual
def uptoBulk {H : Type} : DataW H → Nat
  | .lit (.string bytes) => bytes.length + 1
  | .lit _ => 1
  | .nil => 1
  | .ptr d => uptoBulk d + 1
  | .slice elems spare => uptoBulkAll elems + uptoBulkAll spare + 1
  | .agg parts => uptoBulkAll parts + 1
  | .iface _ d => uptoBulk d + 1
  | .map entries => uptoBulkEntries entries + 1
  | .held _ => 1
def uptoBulkAll {H : Type} : List (DataW H) → Nat
  | [] => 0
  | d :: r => uptoBulk d + uptoBulkAll r
def uptoBulkEntries {H : Type} : List (Lit × DataW H) → Nat
  | [] => 0
  | x :: r => uptoBulkEntry x + uptoBulkEntries r
def uptoBulkEntry {H : Type} : Lit × DataW H → Nat
  | (.string bytes, d) => bytes.length + uptoBulk d + 1
  | (_, d) => uptoBulk d + 1
 end
def uptoSmall : (H : Type) → List (DataW H) → Bool := fun _ ds => decide (uptoBulkAll ds ≤ 1048576)
def OpenSpec.upto (s : _root_.Go.ChangeSpec) : _root_.Go.OpenSpec := { _root_.Go.OpenSpec.ofChange s with cond := some uptoSmall }

/-- 'laws.FnParts', WHERE WHAT IT READS IS OF BULK AT MOST 1048576: true; the input reads as it did. -/
def fnPartsUptoRow : OpenClaim := { program := "ytlckbjflddmjgaadoor", sum := "a5778eb98bc97a0b86338b60e9d0be1fd021caeaef34f5d0de792a53af1beb2d", func := "loop.example/snapshotfiles/laws.FnParts", spec := "fnParts", inPlace := ["internal/bytealg.CountString", "internal/bytealg.IndexByteString", "internal/bytealg.IndexString"], named := ["unicode/utf8.first", "unicode/utf8.acceptRanges", "internal/bytealg.MaxLen"], apart := false, laid := [("unicode/utf8.acceptRanges", laid_unicode_utf8_acceptRanges), ("unicode/utf8.first", laid_unicode_utf8_first)], narrowed := true }
def FnPartsUptoSaid : Prop := fnPartsUptoRow.holds Tryd.pinned (OpenSpec.upto fnPartsSpec)

/-- 'laws.FnPartsNot', WHERE WHAT IT READS IS OF BULK AT MOST 1048576: true; the input reads as it did. -/
def fnPartsNotUptoRow : OpenClaim := { program := "ytlckbjflddmjgaadoor", sum := "a5778eb98bc97a0b86338b60e9d0be1fd021caeaef34f5d0de792a53af1beb2d", func := "loop.example/snapshotfiles/laws.FnPartsNot", spec := "fnPartsNot", inPlace := ["internal/bytealg.CountString", "internal/bytealg.IndexByteString", "internal/bytealg.IndexString"], named := ["unicode/utf8.first", "unicode/utf8.acceptRanges", "internal/bytealg.MaxLen"], apart := false, laid := [("unicode/utf8.acceptRanges", laid_unicode_utf8_acceptRanges), ("unicode/utf8.first", laid_unicode_utf8_first)], narrowed := true }
def FnPartsNotUptoSaid : Prop := fnPartsNotUptoRow.holds Tryd.pinned (OpenSpec.upto fnPartsNotSpec)

/-- 'laws.FnWithinSelf', WHERE WHAT IT READS IS OF BULK AT MOST 1048576: true; the input reads as it did. -/
def fnWithinSelfUptoRow : OpenClaim := { program := "ytlckbjflddmjgaadoor", sum := "a5778eb98bc97a0b86338b60e9d0be1fd021caeaef34f5d0de792a53af1beb2d", func := "loop.example/snapshotfiles/laws.FnWithinSelf", spec := "fnWithinSelf", inPlace := ["internal/bytealg.CountString", "internal/bytealg.IndexByteString", "internal/bytealg.IndexString"], named := ["unicode/utf8.first", "unicode/utf8.acceptRanges", "internal/bytealg.MaxLen"], apart := false, laid := [("unicode/utf8.acceptRanges", laid_unicode_utf8_acceptRanges), ("unicode/utf8.first", laid_unicode_utf8_first)], narrowed := true }
def FnWithinSelfUptoSaid : Prop := fnWithinSelfUptoRow.holds Tryd.pinned (OpenSpec.upto fnWithinSelfSpec)

/-- 'laws.FnParent', WHERE WHAT IT READS IS OF BULK AT MOST 1048576: true; the input reads as it did. -/
def fnParentUptoRow : OpenClaim := { program := "ytlckbjflddmjgaadoor", sum := "a5778eb98bc97a0b86338b60e9d0be1fd021caeaef34f5d0de792a53af1beb2d", func := "loop.example/snapshotfiles/laws.FnParent", spec := "fnParent", inPlace := ["internal/bytealg.CountString", "internal/bytealg.IndexByteString", "internal/bytealg.IndexString"], named := ["unicode/utf8.first", "unicode/utf8.acceptRanges", "internal/bytealg.MaxLen"], apart := false, laid := [("unicode/utf8.acceptRanges", laid_unicode_utf8_acceptRanges), ("unicode/utf8.first", laid_unicode_utf8_first)], narrowed := true }
def FnParentUptoSaid : Prop := fnParentUptoRow.holds Tryd.pinned (OpenSpec.upto fnParentSpec)

/-- 'laws.FnParentNot', WHERE WHAT IT READS IS OF BULK AT MOST 1048576: true; the input reads as it did. -/
def fnParentNotUptoRow : OpenClaim := { program := "ytlckbjflddmjgaadoor", sum := "a5778eb98bc97a0b86338b60e9d0be1fd021caeaef34f5d0de792a53af1beb2d", func := "loop.example/snapshotfiles/laws.FnParentNot", spec := "fnParentNot", inPlace := ["internal/bytealg.CountString", "internal/bytealg.IndexByteString", "internal/bytealg.IndexString"], named := ["unicode/utf8.first", "unicode/utf8.acceptRanges", "internal/bytealg.MaxLen"], apart := false, laid := [("unicode/utf8.acceptRanges", laid_unicode_utf8_acceptRanges), ("unicode/utf8.first", laid_unicode_utf8_first)], narrowed := true }
def FnParentNotUptoSaid : Prop := fnParentNotUptoRow.holds Tryd.pinned (OpenSpec.upto fnParentNotSpec)

/-- 'laws.FnWithin', WHERE WHAT IT READS IS OF BULK AT MOST 1048576: true; the input reads as it did. -/
def fnWithinUptoRow : OpenClaim := { program := "ytlckbjflddmjgaadoor", sum := "a5778eb98bc97a0b86338b60e9d0be1fd021caeaef34f5d0de792a53af1beb2d", func := "loop.example/snapshotfiles/laws.FnWithin", spec := "fnWithin", inPlace := ["internal/bytealg.CountString", "internal/bytealg.IndexByteString", "internal/bytealg.IndexString"], named := ["unicode/utf8.first", "unicode/utf8.acceptRanges", "internal/bytealg.MaxLen"], apart := false, laid := [("unicode/utf8.acceptRanges", laid_unicode_utf8_acceptRanges), ("unicode/utf8.first", laid_unicode_utf8_first)], narrowed := true }
def FnWithinUptoSaid : Prop := fnWithinUptoRow.holds Tryd.pinned (OpenSpec.upto fnWithinSpec)

end Rows
end Go.Proofs.YtlckbjflddmjgaaDoor
