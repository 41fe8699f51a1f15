/-
  No cell of these rows narrows 'for every input' (looked for: loops, veiled, ifaces, maps, wideKeys, modest, calm, conditions, laid).
  DERIVED. THE GIVEN ROWS OF THIS SEAT. 15 by the template 'for every input the law returns true; each argument reads behind the call as it read before'; 0 by the template 'total and deterministic' (their statements: YtbegmliglabpfaaTotals.lean).
  GIVEN WITH THE SEED: the statements are not yours to turn. If you find one false, say at which input.
  Laid BY PROGRAM, IN A SANDBOX (cutbox-rows.mjs): the forced cells as the released guide's own fill.sh prints them over the translation 7aec678c5ccb9a82… (all of the seat's roots in one cut). By AI agents, Wed Nov 11 2026. No macro, syntax, notation, axiom, sorry.
-/
import Derived.Test.YtbegmliglabpfaaChecked
import GoSem.Claim
import GoSem.ClaimJoined
import GoSem.ClaimMapViews
import Derived.JoinedTies
import Derived.KernelRfl
namespace Go.Proofs.Ytbegmliglabpfaa
/- THE CELL 'sum', in the pinned program and in every row, IS THE sha256 OF THE DUMP (.gsa) THAT YtbegmliglabpfaaProg.lean LOADS. Nothing in Lean hashes anything: it is a label: what it is worth is what the hold of that sum in a sandbox is worth. -/
noncomputable def Try.pinned : Pinned := { name := "ytbegmliglabpfaa", sum := "7aec678c5ccb9a822497a245cee4cb94cd999d64cfac9738d0dd4148f35e8747", checked := Try.checked }
namespace Rows
def none {H : Type} : Left H := { results := [], args := [] }

/-- 'laws.FnExactConstants': WHATEVER THE INPUT: true; the input reads as it did. -/
def fnExactConstantsSpec : ChangeSpec := { name := "fnExactConstants", fn := fun _ => fun
  | [] => { results := [.lit (.bool true)], args := [] }
  | _ => none }
def fnExactConstantsRow : OpenClaim := { program := "ytbegmliglabpfaa", sum := "7aec678c5ccb9a822497a245cee4cb94cd999d64cfac9738d0dd4148f35e8747", func := "loop.example/snapshotfiles/laws.FnExactConstants", spec := "fnExactConstants", apart := false }
def FnExactConstantsSaid : Prop := fnExactConstantsRow.holds Try.pinned (OpenSpec.ofChange fnExactConstantsSpec)

/-- ITS FALSE NEIGHBOUR: 'it returns false'. Refute it at one input. -/
def fnExactConstantsWrong : ChangeSpec := { name := "fnExactConstants", fn := fun _ => fun
  | [] => { results := [.lit (.bool false)], args := [] }
  | _ => none }
def FnExactConstantsWrongFalsely : Prop := fnExactConstantsRow.holds Try.pinned (OpenSpec.ofChange fnExactConstantsWrong)

/-- 'laws.FnExactBlockValid': WHATEVER THE INPUT: true; the input reads as it did. -/
def fnExactBlockValidSpec : ChangeSpec := { name := "fnExactBlockValid", fn := fun _ => fun
  | [d] => { results := [.lit (.bool true)], args := [d] }
  | _ => none }
def fnExactBlockValidRow : OpenClaim := { program := "ytbegmliglabpfaa", sum := "7aec678c5ccb9a822497a245cee4cb94cd999d64cfac9738d0dd4148f35e8747", func := "loop.example/snapshotfiles/laws.FnExactBlockValid", spec := "fnExactBlockValid", apart := false }
def FnExactBlockValidSaid : Prop := fnExactBlockValidRow.holds Try.pinned (OpenSpec.ofChange fnExactBlockValidSpec)

/-- ITS FALSE NEIGHBOUR: 'it returns false'. Refute it at one input. -/
def fnExactBlockValidWrong : ChangeSpec := { name := "fnExactBlockValid", fn := fun _ => fun
  | [d] => { results := [.lit (.bool false)], args := [d] }
  | _ => none }
def FnExactBlockValidWrongFalsely : Prop := fnExactBlockValidRow.holds Try.pinned (OpenSpec.ofChange fnExactBlockValidWrong)

/-- 'laws.FnExactFileValid': WHATEVER THE INPUT: true; the input reads as it did. -/
def fnExactFileValidSpec : ChangeSpec := { name := "fnExactFileValid", fn := fun _ => fun
  | [d] => { results := [.lit (.bool true)], args := [d] }
  | _ => none }
def fnExactFileValidRow : OpenClaim := { program := "ytbegmliglabpfaa", sum := "7aec678c5ccb9a822497a245cee4cb94cd999d64cfac9738d0dd4148f35e8747", func := "loop.example/snapshotfiles/laws.FnExactFileValid", spec := "fnExactFileValid", apart := false }
def FnExactFileValidSaid : Prop := fnExactFileValidRow.holds Try.pinned (OpenSpec.ofChange fnExactFileValidSpec)

/-- ITS FALSE NEIGHBOUR: 'it returns false'. Refute it at one input. -/
def fnExactFileValidWrong : ChangeSpec := { name := "fnExactFileValid", fn := fun _ => fun
  | [d] => { results := [.lit (.bool false)], args := [d] }
  | _ => none }
def FnExactFileValidWrongFalsely : Prop := fnExactFileValidRow.holds Try.pinned (OpenSpec.ofChange fnExactFileValidWrong)

/-- 'laws.FnExactBlockSum': WHATEVER THE INPUT: true; the input reads as it did. -/
def fnExactBlockSumSpec : ChangeSpec := { name := "fnExactBlockSum", fn := fun _ => fun
  | [d] => { results := [.lit (.bool true)], args := [d] }
  | _ => none }
def fnExactBlockSumRow : OpenClaim := { program := "ytbegmliglabpfaa", sum := "7aec678c5ccb9a822497a245cee4cb94cd999d64cfac9738d0dd4148f35e8747", func := "loop.example/snapshotfiles/laws.FnExactBlockSum", spec := "fnExactBlockSum", apart := false }
def FnExactBlockSumSaid : Prop := fnExactBlockSumRow.holds Try.pinned (OpenSpec.ofChange fnExactBlockSumSpec)

/-- ITS FALSE NEIGHBOUR: 'it returns false'. Refute it at one input. -/
def fnExactBlockSumWrong : ChangeSpec := { name := "fnExactBlockSum", fn := fun _ => fun
  | [d] => { results := [.lit (.bool false)], args := [d] }
  | _ => none }
def FnExactBlockSumWrongFalsely : Prop := fnExactBlockSumRow.holds Try.pinned (OpenSpec.ofChange fnExactBlockSumWrong)

/-- 'laws.FnBlockPart': WHATEVER THE INPUT: true; the input reads as it did. -/
def fnBlockPartSpec : ChangeSpec := { name := "fnBlockPart", fn := fun _ => fun
  | [d] => { results := [.lit (.bool true)], args := [d] }
  | _ => none }
def fnBlockPartRow : OpenClaim := { program := "ytbegmliglabpfaa", sum := "7aec678c5ccb9a822497a245cee4cb94cd999d64cfac9738d0dd4148f35e8747", func := "loop.example/snapshotfiles/laws.FnBlockPart", spec := "fnBlockPart", apart := false }
def FnBlockPartSaid : Prop := fnBlockPartRow.holds Try.pinned (OpenSpec.ofChange fnBlockPartSpec)

/-- ITS FALSE NEIGHBOUR: 'it returns false'. Refute it at one input. -/
def fnBlockPartWrong : ChangeSpec := { name := "fnBlockPart", fn := fun _ => fun
  | [d] => { results := [.lit (.bool false)], args := [d] }
  | _ => none }
def FnBlockPartWrongFalsely : Prop := fnBlockPartRow.holds Try.pinned (OpenSpec.ofChange fnBlockPartWrong)

/-- 'laws.FnFilePart': WHATEVER THE INPUT: true; the input reads as it did. -/
def fnFilePartSpec : ChangeSpec := { name := "fnFilePart", fn := fun _ => fun
  | [d] => { results := [.lit (.bool true)], args := [d] }
  | _ => none }
def fnFilePartRow : OpenClaim := { program := "ytbegmliglabpfaa", sum := "7aec678c5ccb9a822497a245cee4cb94cd999d64cfac9738d0dd4148f35e8747", func := "loop.example/snapshotfiles/laws.FnFilePart", spec := "fnFilePart", apart := false }
def FnFilePartSaid : Prop := fnFilePartRow.holds Try.pinned (OpenSpec.ofChange fnFilePartSpec)

/-- ITS FALSE NEIGHBOUR: 'it returns false'. Refute it at one input. -/
def fnFilePartWrong : ChangeSpec := { name := "fnFilePart", fn := fun _ => fun
  | [d] => { results := [.lit (.bool false)], args := [d] }
  | _ => none }
def FnFilePartWrongFalsely : Prop := fnFilePartRow.holds Try.pinned (OpenSpec.ofChange fnFilePartWrong)

/-- 'laws.FnSum': WHATEVER THE INPUT: true; the input reads as it did. -/
def fnSumSpec : ChangeSpec := { name := "fnSum", fn := fun _ => fun
  | [d1, d2] => { results := [.lit (.bool true)], args := [d1, d2] }
  | _ => none }
def fnSumRow : OpenClaim := { program := "ytbegmliglabpfaa", sum := "7aec678c5ccb9a822497a245cee4cb94cd999d64cfac9738d0dd4148f35e8747", func := "loop.example/snapshotfiles/laws.FnSum", spec := "fnSum", apart := false }
def FnSumSaid : Prop := fnSumRow.holds Try.pinned (OpenSpec.ofChange fnSumSpec)

/-- ITS FALSE NEIGHBOUR: 'it returns false'. Refute it at one input. -/
def fnSumWrong : ChangeSpec := { name := "fnSum", fn := fun _ => fun
  | [d1, d2] => { results := [.lit (.bool false)], args := [d1, d2] }
  | _ => none }
def FnSumWrongFalsely : Prop := fnSumRow.holds Try.pinned (OpenSpec.ofChange fnSumWrong)

/-- 'laws.FnSumSwap': WHATEVER THE INPUT: true; the input reads as it did. -/
def fnSumSwapSpec : ChangeSpec := { name := "fnSumSwap", fn := fun _ => fun
  | [d1, d2] => { results := [.lit (.bool true)], args := [d1, d2] }
  | _ => none }
def fnSumSwapRow : OpenClaim := { program := "ytbegmliglabpfaa", sum := "7aec678c5ccb9a822497a245cee4cb94cd999d64cfac9738d0dd4148f35e8747", func := "loop.example/snapshotfiles/laws.FnSumSwap", spec := "fnSumSwap", apart := false }
def FnSumSwapSaid : Prop := fnSumSwapRow.holds Try.pinned (OpenSpec.ofChange fnSumSwapSpec)

/-- ITS FALSE NEIGHBOUR: 'it returns false'. Refute it at one input. -/
def fnSumSwapWrong : ChangeSpec := { name := "fnSumSwap", fn := fun _ => fun
  | [d1, d2] => { results := [.lit (.bool false)], args := [d1, d2] }
  | _ => none }
def FnSumSwapWrongFalsely : Prop := fnSumSwapRow.holds Try.pinned (OpenSpec.ofChange fnSumSwapWrong)

/-- 'laws.FnExactBlockPack': WHATEVER THE INPUT: true; the input reads as it did. -/
def fnExactBlockPackSpec : ChangeSpec := { name := "fnExactBlockPack", fn := fun _ => fun
  | [d] => { results := [.lit (.bool true)], args := [d] }
  | _ => none }
def fnExactBlockPackRow : OpenClaim := { program := "ytbegmliglabpfaa", sum := "7aec678c5ccb9a822497a245cee4cb94cd999d64cfac9738d0dd4148f35e8747", func := "loop.example/snapshotfiles/laws.FnExactBlockPack", spec := "fnExactBlockPack", apart := false }
def FnExactBlockPackSaid : Prop := fnExactBlockPackRow.holds Try.pinned (OpenSpec.ofChange fnExactBlockPackSpec)

/-- ITS FALSE NEIGHBOUR: 'it returns false'. Refute it at one input. -/
def fnExactBlockPackWrong : ChangeSpec := { name := "fnExactBlockPack", fn := fun _ => fun
  | [d] => { results := [.lit (.bool false)], args := [d] }
  | _ => none }
def FnExactBlockPackWrongFalsely : Prop := fnExactBlockPackRow.holds Try.pinned (OpenSpec.ofChange fnExactBlockPackWrong)

/-- 'laws.FnExactBlockUnpack': WHATEVER THE INPUT: true; the input reads as it did. -/
def fnExactBlockUnpackSpec : ChangeSpec := { name := "fnExactBlockUnpack", fn := fun _ => fun
  | [d] => { results := [.lit (.bool true)], args := [d] }
  | _ => none }
def fnExactBlockUnpackRow : OpenClaim := { program := "ytbegmliglabpfaa", sum := "7aec678c5ccb9a822497a245cee4cb94cd999d64cfac9738d0dd4148f35e8747", func := "loop.example/snapshotfiles/laws.FnExactBlockUnpack", spec := "fnExactBlockUnpack", apart := false }
def FnExactBlockUnpackSaid : Prop := fnExactBlockUnpackRow.holds Try.pinned (OpenSpec.ofChange fnExactBlockUnpackSpec)

/-- ITS FALSE NEIGHBOUR: 'it returns false'. Refute it at one input. -/
def fnExactBlockUnpackWrong : ChangeSpec := { name := "fnExactBlockUnpack", fn := fun _ => fun
  | [d] => { results := [.lit (.bool false)], args := [d] }
  | _ => none }
def FnExactBlockUnpackWrongFalsely : Prop := fnExactBlockUnpackRow.holds Try.pinned (OpenSpec.ofChange fnExactBlockUnpackWrong)

/-- 'laws.FnPackRuns': WHATEVER THE INPUT: true; the input reads as it did. -/
def fnPackRunsSpec : ChangeSpec := { name := "fnPackRuns", fn := fun _ => fun
  | [d] => { results := [.lit (.bool true)], args := [d] }
  | _ => none }
def fnPackRunsRow : OpenClaim := { program := "ytbegmliglabpfaa", sum := "7aec678c5ccb9a822497a245cee4cb94cd999d64cfac9738d0dd4148f35e8747", func := "loop.example/snapshotfiles/laws.FnPackRuns", spec := "fnPackRuns", apart := false }
def FnPackRunsSaid : Prop := fnPackRunsRow.holds Try.pinned (OpenSpec.ofChange fnPackRunsSpec)

/-- ITS FALSE NEIGHBOUR: 'it returns false'. Refute it at one input. -/
def fnPackRunsWrong : ChangeSpec := { name := "fnPackRuns", fn := fun _ => fun
  | [d] => { results := [.lit (.bool false)], args := [d] }
  | _ => none }
def FnPackRunsWrongFalsely : Prop := fnPackRunsRow.holds Try.pinned (OpenSpec.ofChange fnPackRunsWrong)

/-- 'laws.FnPackSame': WHATEVER THE INPUT: true; the input reads as it did. -/
def fnPackSameSpec : ChangeSpec := { name := "fnPackSame", fn := fun _ => fun
  | [d] => { results := [.lit (.bool true)], args := [d] }
  | _ => none }
def fnPackSameRow : OpenClaim := { program := "ytbegmliglabpfaa", sum := "7aec678c5ccb9a822497a245cee4cb94cd999d64cfac9738d0dd4148f35e8747", func := "loop.example/snapshotfiles/laws.FnPackSame", spec := "fnPackSame", apart := false }
def FnPackSameSaid : Prop := fnPackSameRow.holds Try.pinned (OpenSpec.ofChange fnPackSameSpec)

/-- ITS FALSE NEIGHBOUR: 'it returns false'. Refute it at one input. -/
def fnPackSameWrong : ChangeSpec := { name := "fnPackSame", fn := fun _ => fun
  | [d] => { results := [.lit (.bool false)], args := [d] }
  | _ => none }
def FnPackSameWrongFalsely : Prop := fnPackSameRow.holds Try.pinned (OpenSpec.ofChange fnPackSameWrong)

/-- 'laws.FnPack': WHATEVER THE INPUT: true; the input reads as it did. -/
def fnPackSpec : ChangeSpec := { name := "fnPack", fn := fun _ => fun
  | [d] => { results := [.lit (.bool true)], args := [d] }
  | _ => none }
def fnPackRow : OpenClaim := { program := "ytbegmliglabpfaa", sum := "7aec678c5ccb9a822497a245cee4cb94cd999d64cfac9738d0dd4148f35e8747", func := "loop.example/snapshotfiles/laws.FnPack", spec := "fnPack", apart := false }
def FnPackSaid : Prop := fnPackRow.holds Try.pinned (OpenSpec.ofChange fnPackSpec)

/-- ITS FALSE NEIGHBOUR: 'it returns false'. Refute it at one input. -/
def fnPackWrong : ChangeSpec := { name := "fnPack", fn := fun _ => fun
  | [d] => { results := [.lit (.bool false)], args := [d] }
  | _ => none }
def FnPackWrongFalsely : Prop := fnPackRow.holds Try.pinned (OpenSpec.ofChange fnPackWrong)

/-- 'laws.FnUnpackPart': WHATEVER THE INPUT: true; the input reads as it did. -/
def fnUnpackPartSpec : ChangeSpec := { name := "fnUnpackPart", fn := fun _ => fun
  | [d] => { results := [.lit (.bool true)], args := [d] }
  | _ => none }
def fnUnpackPartRow : OpenClaim := { program := "ytbegmliglabpfaa", sum := "7aec678c5ccb9a822497a245cee4cb94cd999d64cfac9738d0dd4148f35e8747", func := "loop.example/snapshotfiles/laws.FnUnpackPart", spec := "fnUnpackPart", apart := false }
def FnUnpackPartSaid : Prop := fnUnpackPartRow.holds Try.pinned (OpenSpec.ofChange fnUnpackPartSpec)

/-- ITS FALSE NEIGHBOUR: 'it returns false'. Refute it at one input. -/
def fnUnpackPartWrong : ChangeSpec := { name := "fnUnpackPart", fn := fun _ => fun
  | [d] => { results := [.lit (.bool false)], args := [d] }
  | _ => none }
def FnUnpackPartWrongFalsely : Prop := fnUnpackPartRow.holds Try.pinned (OpenSpec.ofChange fnUnpackPartWrong)

/-- 'laws.FnUnpack': WHATEVER THE INPUT: true; the input reads as it did. -/
def fnUnpackSpec : ChangeSpec := { name := "fnUnpack", fn := fun _ => fun
  | [d] => { results := [.lit (.bool true)], args := [d] }
  | _ => none }
def fnUnpackRow : OpenClaim := { program := "ytbegmliglabpfaa", sum := "7aec678c5ccb9a822497a245cee4cb94cd999d64cfac9738d0dd4148f35e8747", func := "loop.example/snapshotfiles/laws.FnUnpack", spec := "fnUnpack", apart := false }
def FnUnpackSaid : Prop := fnUnpackRow.holds Try.pinned (OpenSpec.ofChange fnUnpackSpec)

/-- ITS FALSE NEIGHBOUR: 'it returns false'. Refute it at one input. -/
def fnUnpackWrong : ChangeSpec := { name := "fnUnpack", fn := fun _ => fun
  | [d] => { results := [.lit (.bool false)], args := [d] }
  | _ => none }
def FnUnpackWrongFalsely : Prop := fnUnpackRow.holds Try.pinned (OpenSpec.ofChange fnUnpackWrong)

/- THE SECOND FORM. 'bulk': how many values and letters a reading holds, each counted each time it is reached (what is shared counts as often as it is met; a slice's spare places count too). A statement '..UptoSaid' is the law's where the arguments, and the package variables that the reading takes, are together of bulk at most 1048576: NARROWER than '..Said'. Prove '..Said' where nothing that the law and all that it calls make is longer than what came in: it says more and counts as full. Else prove '..UptoSaid'. A law counts once. -/
mutual
def uptoBulk {H : Type} : DataW H → Nat
  | .lit (.string bytes) => bytes.length + 1
  | .lit _ => 1
  | .nil => 1
  | .ptr d => uptoBulk d + 1
  | .slice elems spare => uptoBulkAll elems + uptoBulkAll spare + 1
  | .agg parts => uptoBulkAll parts + 1
  | .iface _ d => uptoBulk d + 1
  | .map entries => uptoBulkEntries entries + 1
  | .held _ => 1
def uptoBulkAll {H : Type} : List (DataW H) → Nat
  | [] => 0
  | d :: r => uptoBulk d + uptoBulkAll r
def uptoBulkEntries {H : Type} : List (Lit × DataW H) → Nat
  | [] => 0
  | x :: r => uptoBulkEntry x + uptoBulkEntries r
def uptoBulkEntry {H : Type} : Lit × DataW H → Nat
  | (.string bytes, d) => bytes.length + uptoBulk d + 1
  | (_, d) => uptoBulk d + 1
 end
def uptoSmall : (H : Type) → List (DataW H) → Bool := fun _ ds => decide (uptoBulkAll ds ≤ 1048576)
def OpenSpec.upto (s : _root_.Go.ChangeSpec) : _root_.Go.OpenSpec := { _root_.Go.OpenSpec.ofChange s with cond := some uptoSmall }

/-- 'laws.FnExactConstants', WHERE WHAT IT READS IS OF BULK AT MOST 1048576: true; the input reads as it did. -/
def fnExactConstantsUptoRow : OpenClaim := { program := "ytbegmliglabpfaa", sum := "7aec678c5ccb9a822497a245cee4cb94cd999d64cfac9738d0dd4148f35e8747", func := "loop.example/snapshotfiles/laws.FnExactConstants", spec := "fnExactConstants", apart := false, narrowed := true }
def FnExactConstantsUptoSaid : Prop := fnExactConstantsUptoRow.holds Try.pinned (OpenSpec.upto fnExactConstantsSpec)

/-- 'laws.FnExactBlockValid', WHERE WHAT IT READS IS OF BULK AT MOST 1048576: true; the input reads as it did. -/
def fnExactBlockValidUptoRow : OpenClaim := { program := "ytbegmliglabpfaa", sum := "7aec678c5ccb9a822497a245cee4cb94cd999d64cfac9738d0dd4148f35e8747", func := "loop.example/snapshotfiles/laws.FnExactBlockValid", spec := "fnExactBlockValid", apart := false, narrowed := true }
def FnExactBlockValidUptoSaid : Prop := fnExactBlockValidUptoRow.holds Try.pinned (OpenSpec.upto fnExactBlockValidSpec)

/-- 'laws.FnExactFileValid', WHERE WHAT IT READS IS OF BULK AT MOST 1048576: true; the input reads as it did. -/
def fnExactFileValidUptoRow : OpenClaim := { program := "ytbegmliglabpfaa", sum := "7aec678c5ccb9a822497a245cee4cb94cd999d64cfac9738d0dd4148f35e8747", func := "loop.example/snapshotfiles/laws.FnExactFileValid", spec := "fnExactFileValid", apart := false, narrowed := true }
def FnExactFileValidUptoSaid : Prop := fnExactFileValidUptoRow.holds Try.pinned (OpenSpec.upto fnExactFileValidSpec)

/-- 'laws.FnExactBlockSum', WHERE WHAT IT READS IS OF BULK AT MOST 1048576: true; the input reads as it did. -/
def fnExactBlockSumUptoRow : OpenClaim := { program := "ytbegmliglabpfaa", sum := "7aec678c5ccb9a822497a245cee4cb94cd999d64cfac9738d0dd4148f35e8747", func := "loop.example/snapshotfiles/laws.FnExactBlockSum", spec := "fnExactBlockSum", apart := false, narrowed := true }
def FnExactBlockSumUptoSaid : Prop := fnExactBlockSumUptoRow.holds Try.pinned (OpenSpec.upto fnExactBlockSumSpec)

/-- 'laws.FnBlockPart', WHERE WHAT IT READS IS OF BULK AT MOST 1048576: true; the input reads as it did. -/
def fnBlockPartUptoRow : OpenClaim := { program := "ytbegmliglabpfaa", sum := "7aec678c5ccb9a822497a245cee4cb94cd999d64cfac9738d0dd4148f35e8747", func := "loop.example/snapshotfiles/laws.FnBlockPart", spec := "fnBlockPart", apart := false, narrowed := true }
def FnBlockPartUptoSaid : Prop := fnBlockPartUptoRow.holds Try.pinned (OpenSpec.upto fnBlockPartSpec)

/-- 'laws.FnFilePart', WHERE WHAT IT READS IS OF BULK AT MOST 1048576: true; the input reads as it did. -/
def fnFilePartUptoRow : OpenClaim := { program := "ytbegmliglabpfaa", sum := "7aec678c5ccb9a822497a245cee4cb94cd999d64cfac9738d0dd4148f35e8747", func := "loop.example/snapshotfiles/laws.FnFilePart", spec := "fnFilePart", apart := false, narrowed := true }
def FnFilePartUptoSaid : Prop := fnFilePartUptoRow.holds Try.pinned (OpenSpec.upto fnFilePartSpec)

/-- 'laws.FnSum', WHERE WHAT IT READS IS OF BULK AT MOST 1048576: true; the input reads as it did. -/
def fnSumUptoRow : OpenClaim := { program := "ytbegmliglabpfaa", sum := "7aec678c5ccb9a822497a245cee4cb94cd999d64cfac9738d0dd4148f35e8747", func := "loop.example/snapshotfiles/laws.FnSum", spec := "fnSum", apart := false, narrowed := true }
def FnSumUptoSaid : Prop := fnSumUptoRow.holds Try.pinned (OpenSpec.upto fnSumSpec)

/-- 'laws.FnSumSwap', WHERE WHAT IT READS IS OF BULK AT MOST 1048576: true; the input reads as it did. -/
def fnSumSwapUptoRow : OpenClaim := { program := "ytbegmliglabpfaa", sum := "7aec678c5ccb9a822497a245cee4cb94cd999d64cfac9738d0dd4148f35e8747", func := "loop.example/snapshotfiles/laws.FnSumSwap", spec := "fnSumSwap", apart := false, narrowed := true }
def FnSumSwapUptoSaid : Prop := fnSumSwapUptoRow.holds Try.pinned (OpenSpec.upto fnSumSwapSpec)

/-- 'laws.FnExactBlockPack', WHERE WHAT IT READS IS OF BULK AT MOST 1048576: true; the input reads as it did. -/
def fnExactBlockPackUptoRow : OpenClaim := { program := "ytbegmliglabpfaa", sum := "7aec678c5ccb9a822497a245cee4cb94cd999d64cfac9738d0dd4148f35e8747", func := "loop.example/snapshotfiles/laws.FnExactBlockPack", spec := "fnExactBlockPack", apart := false, narrowed := true }
def FnExactBlockPackUptoSaid : Prop := fnExactBlockPackUptoRow.holds Try.pinned (OpenSpec.upto fnExactBlockPackSpec)

/-- 'laws.FnExactBlockUnpack', WHERE WHAT IT READS IS OF BULK AT MOST 1048576: true; the input reads as it did. -/
def fnExactBlockUnpackUptoRow : OpenClaim := { program := "ytbegmliglabpfaa", sum := "7aec678c5ccb9a822497a245cee4cb94cd999d64cfac9738d0dd4148f35e8747", func := "loop.example/snapshotfiles/laws.FnExactBlockUnpack", spec := "fnExactBlockUnpack", apart := false, narrowed := true }
def FnExactBlockUnpackUptoSaid : Prop := fnExactBlockUnpackUptoRow.holds Try.pinned (OpenSpec.upto fnExactBlockUnpackSpec)

/-- 'laws.FnPackRuns', WHERE WHAT IT READS IS OF BULK AT MOST 1048576: true; the input reads as it did. -/
def fnPackRunsUptoRow : OpenClaim := { program := "ytbegmliglabpfaa", sum := "7aec678c5ccb9a822497a245cee4cb94cd999d64cfac9738d0dd4148f35e8747", func := "loop.example/snapshotfiles/laws.FnPackRuns", spec := "fnPackRuns", apart := false, narrowed := true }
def FnPackRunsUptoSaid : Prop := fnPackRunsUptoRow.holds Try.pinned (OpenSpec.upto fnPackRunsSpec)

/-- 'laws.FnPackSame', WHERE WHAT IT READS IS OF BULK AT MOST 1048576: true; the input reads as it did. -/
def fnPackSameUptoRow : OpenClaim := { program := "ytbegmliglabpfaa", sum := "7aec678c5ccb9a822497a245cee4cb94cd999d64cfac9738d0dd4148f35e8747", func := "loop.example/snapshotfiles/laws.FnPackSame", spec := "fnPackSame", apart := false, narrowed := true }
def FnPackSameUptoSaid : Prop := fnPackSameUptoRow.holds Try.pinned (OpenSpec.upto fnPackSameSpec)

/-- 'laws.FnPack', WHERE WHAT IT READS IS OF BULK AT MOST 1048576: true; the input reads as it did. -/
def fnPackUptoRow : OpenClaim := { program := "ytbegmliglabpfaa", sum := "7aec678c5ccb9a822497a245cee4cb94cd999d64cfac9738d0dd4148f35e8747", func := "loop.example/snapshotfiles/laws.FnPack", spec := "fnPack", apart := false, narrowed := true }
def FnPackUptoSaid : Prop := fnPackUptoRow.holds Try.pinned (OpenSpec.upto fnPackSpec)

/-- 'laws.FnUnpackPart', WHERE WHAT IT READS IS OF BULK AT MOST 1048576: true; the input reads as it did. -/
def fnUnpackPartUptoRow : OpenClaim := { program := "ytbegmliglabpfaa", sum := "7aec678c5ccb9a822497a245cee4cb94cd999d64cfac9738d0dd4148f35e8747", func := "loop.example/snapshotfiles/laws.FnUnpackPart", spec := "fnUnpackPart", apart := false, narrowed := true }
def FnUnpackPartUptoSaid : Prop := fnUnpackPartUptoRow.holds Try.pinned (OpenSpec.upto fnUnpackPartSpec)

/-- 'laws.FnUnpack', WHERE WHAT IT READS IS OF BULK AT MOST 1048576: true; the input reads as it did. -/
def fnUnpackUptoRow : OpenClaim := { program := "ytbegmliglabpfaa", sum := "7aec678c5ccb9a822497a245cee4cb94cd999d64cfac9738d0dd4148f35e8747", func := "loop.example/snapshotfiles/laws.FnUnpack", spec := "fnUnpack", apart := false, narrowed := true }
def FnUnpackUptoSaid : Prop := fnUnpackUptoRow.holds Try.pinned (OpenSpec.upto fnUnpackSpec)

end Rows
end Go.Proofs.Ytbegmliglabpfaa
