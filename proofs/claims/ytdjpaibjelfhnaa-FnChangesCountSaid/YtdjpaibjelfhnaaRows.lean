/-
  No cell of these rows narrows 'for every input' (looked for: loops, veiled, ifaces, maps, wideKeys, modest, calm, conditions, laid).
  DERIVED. THE GIVEN ROWS OF THIS SEAT. 4 by the template 'for every input the law returns true; each argument reads behind the call as it read before'; 0 by the template 'total and deterministic' (their statements: YtdjpaibjelfhnaaTotals.lean).
  GIVEN WITH THE SEED: the statements are not yours to turn. If you find one false, say at which input.
  Laid BY PROGRAM, IN A SANDBOX (cutbox-rows.mjs): the forced cells as the released guide's own fill.sh prints them over the translation e0748ed95b1113c3… (all of the seat's roots in one cut). By AI agents, Wed Nov 11 2026. No macro, syntax, notation, axiom, sorry.
-/
import Derived.Test.YtdjpaibjelfhnaaChecked
import GoSem.Claim
import GoSem.ClaimJoined
import GoSem.ClaimMapViews
import Derived.JoinedTies
import Derived.KernelRfl
namespace Go.Proofs.Ytdjpaibjelfhnaa
/- THE CELL 'sum', in the pinned program and in every row, IS THE sha256 OF THE DUMP (.gsa) THAT YtdjpaibjelfhnaaProg.lean LOADS. Nothing in Lean hashes anything: it is a label: what it is worth is what the hold of that sum in a sandbox is worth. -/
noncomputable def Try.pinned : Pinned := { name := "ytdjpaibjelfhnaa", sum := "e0748ed95b1113c3d7a40a5155727205b2bcbf734f66144cb545b4e6f0198c9c", checked := Try.checked }
namespace Rows
def none {H : Type} : Left H := { results := [], args := [] }

/-- 'laws.FnStreamSize': WHATEVER THE INPUT: true; the input reads as it did. -/
def fnStreamSizeSpec : ChangeSpec := { name := "fnStreamSize", fn := fun _ => fun
  | [d1, d2] => { results := [.lit (.bool true)], args := [d1, d2] }
  | _ => none }
def fnStreamSizeRow : OpenClaim := { program := "ytdjpaibjelfhnaa", sum := "e0748ed95b1113c3d7a40a5155727205b2bcbf734f66144cb545b4e6f0198c9c", func := "loop.example/snapshotfiles/laws.FnStreamSize", spec := "fnStreamSize", apart := false }
def FnStreamSizeSaid : Prop := fnStreamSizeRow.holds Try.pinned (OpenSpec.ofChange fnStreamSizeSpec)

/-- ITS FALSE NEIGHBOUR: 'it returns false'. Refute it at one input. -/
def fnStreamSizeWrong : ChangeSpec := { name := "fnStreamSize", fn := fun _ => fun
  | [d1, d2] => { results := [.lit (.bool false)], args := [d1, d2] }
  | _ => none }
def FnStreamSizeWrongFalsely : Prop := fnStreamSizeRow.holds Try.pinned (OpenSpec.ofChange fnStreamSizeWrong)

/-- 'laws.FnExactStreamSize': WHATEVER THE INPUT: true; the input reads as it did. -/
def fnExactStreamSizeSpec : ChangeSpec := { name := "fnExactStreamSize", fn := fun _ => fun
  | [d] => { results := [.lit (.bool true)], args := [d] }
  | _ => none }
def fnExactStreamSizeRow : OpenClaim := { program := "ytdjpaibjelfhnaa", sum := "e0748ed95b1113c3d7a40a5155727205b2bcbf734f66144cb545b4e6f0198c9c", func := "loop.example/snapshotfiles/laws.FnExactStreamSize", spec := "fnExactStreamSize", apart := false }
def FnExactStreamSizeSaid : Prop := fnExactStreamSizeRow.holds Try.pinned (OpenSpec.ofChange fnExactStreamSizeSpec)

/-- ITS FALSE NEIGHBOUR: 'it returns false'. Refute it at one input. -/
def fnExactStreamSizeWrong : ChangeSpec := { name := "fnExactStreamSize", fn := fun _ => fun
  | [d] => { results := [.lit (.bool false)], args := [d] }
  | _ => none }
def FnExactStreamSizeWrongFalsely : Prop := fnExactStreamSizeRow.holds Try.pinned (OpenSpec.ofChange fnExactStreamSizeWrong)

/-- 'laws.FnExactChangesCount': WHATEVER THE INPUT: true; the input reads as it did. -/
def fnExactChangesCountSpec : ChangeSpec := { name := "fnExactChangesCount", fn := fun _ => fun
  | [d] => { results := [.lit (.bool true)], args := [d] }
  | _ => none }
def fnExactChangesCountRow : OpenClaim := { program := "ytdjpaibjelfhnaa", sum := "e0748ed95b1113c3d7a40a5155727205b2bcbf734f66144cb545b4e6f0198c9c", func := "loop.example/snapshotfiles/laws.FnExactChangesCount", spec := "fnExactChangesCount", apart := false }
def FnExactChangesCountSaid : Prop := fnExactChangesCountRow.holds Try.pinned (OpenSpec.ofChange fnExactChangesCountSpec)

/-- ITS FALSE NEIGHBOUR: 'it returns false'. Refute it at one input. -/
def fnExactChangesCountWrong : ChangeSpec := { name := "fnExactChangesCount", fn := fun _ => fun
  | [d] => { results := [.lit (.bool false)], args := [d] }
  | _ => none }
def FnExactChangesCountWrongFalsely : Prop := fnExactChangesCountRow.holds Try.pinned (OpenSpec.ofChange fnExactChangesCountWrong)

/-- 'laws.FnChangesCount': WHATEVER THE INPUT: true; the input reads as it did. -/
def fnChangesCountSpec : ChangeSpec := { name := "fnChangesCount", fn := fun _ => fun
  | [d] => { results := [.lit (.bool true)], args := [d] }
  | _ => none }
def fnChangesCountRow : OpenClaim := { program := "ytdjpaibjelfhnaa", sum := "e0748ed95b1113c3d7a40a5155727205b2bcbf734f66144cb545b4e6f0198c9c", func := "loop.example/snapshotfiles/laws.FnChangesCount", spec := "fnChangesCount", apart := false }
def FnChangesCountSaid : Prop := fnChangesCountRow.holds Try.pinned (OpenSpec.ofChange fnChangesCountSpec)

/-- ITS FALSE NEIGHBOUR: 'it returns false'. Refute it at one input. -/
def fnChangesCountWrong : ChangeSpec := { name := "fnChangesCount", fn := fun _ => fun
  | [d] => { results := [.lit (.bool false)], args := [d] }
  | _ => none }
def FnChangesCountWrongFalsely : Prop := fnChangesCountRow.holds Try.pinned (OpenSpec.ofChange fnChangesCountWrong)

/- THE SECOND FORM. 'bulk': how many values and letters a reading holds, each counted each time it is reached (what is shared counts as often as it is met; a slice's spare places count too). A statement '..UptoSaid' is the law's where the arguments, and the package variables that the reading takes, are together of bulk at most 1048576: NARROWER than '..Said'. Prove '..Said' where nothing that the law and all that it calls make is longer than what came in: it says more and counts as full. Else prove '..UptoSaid'. A law counts once. -/
mutual
def uptoBulk {H : Type} : DataW H → Nat
  | .lit (.string bytes) => bytes.length + 1
  | .lit _ => 1
  | .nil => 1
  | .ptr d => uptoBulk d + 1
  | .slice elems spare => uptoBulkAll elems + uptoBulkAll spare + 1
  | .agg parts => uptoBulkAll parts + 1
  | .iface _ d => uptoBulk d + 1
  | .map entries => uptoBulkEntries entries + 1
  | .held _ => 1
def uptoBulkAll {H : Type} : List (DataW H) → Nat
  | [] => 0
  | d :: r => uptoBulk d + uptoBulkAll r
def uptoBulkEntries {H : Type} : List (Lit × DataW H) → Nat
  | [] => 0
  | x :: r => uptoBulkEntry x + uptoBulkEntries r
def uptoBulkEntry {H : Type} : Lit × DataW H → Nat
  | (.string bytes, d) => bytes.length + uptoBulk d + 1
  | (_, d) => uptoBulk d + 1
 end
def uptoSmall : (H : Type) → List (DataW H) → Bool := fun _ ds => decide (uptoBulkAll ds ≤ 1048576)
def OpenSpec.upto (s : _root_.Go.ChangeSpec) : _root_.Go.OpenSpec := { _root_.Go.OpenSpec.ofChange s with cond := some uptoSmall }

/-- 'laws.FnStreamSize', WHERE WHAT IT READS IS OF BULK AT MOST 1048576: true; the input reads as it did. -/
def fnStreamSizeUptoRow : OpenClaim := { program := "ytdjpaibjelfhnaa", sum := "e0748ed95b1113c3d7a40a5155727205b2bcbf734f66144cb545b4e6f0198c9c", func := "loop.example/snapshotfiles/laws.FnStreamSize", spec := "fnStreamSize", apart := false, narrowed := true }
def FnStreamSizeUptoSaid : Prop := fnStreamSizeUptoRow.holds Try.pinned (OpenSpec.upto fnStreamSizeSpec)

/-- 'laws.FnExactStreamSize', WHERE WHAT IT READS IS OF BULK AT MOST 1048576: true; the input reads as it did. -/
def fnExactStreamSizeUptoRow : OpenClaim := { program := "ytdjpaibjelfhnaa", sum := "e0748ed95b1113c3d7a40a5155727205b2bcbf734f66144cb545b4e6f0198c9c", func := "loop.example/snapshotfiles/laws.FnExactStreamSize", spec := "fnExactStreamSize", apart := false, narrowed := true }
def FnExactStreamSizeUptoSaid : Prop := fnExactStreamSizeUptoRow.holds Try.pinned (OpenSpec.upto fnExactStreamSizeSpec)

/-- 'laws.FnExactChangesCount', WHERE WHAT IT READS IS OF BULK AT MOST 1048576: true; the input reads as it did. -/
def fnExactChangesCountUptoRow : OpenClaim := { program := "ytdjpaibjelfhnaa", sum := "e0748ed95b1113c3d7a40a5155727205b2bcbf734f66144cb545b4e6f0198c9c", func := "loop.example/snapshotfiles/laws.FnExactChangesCount", spec := "fnExactChangesCount", apart := false, narrowed := true }
def FnExactChangesCountUptoSaid : Prop := fnExactChangesCountUptoRow.holds Try.pinned (OpenSpec.upto fnExactChangesCountSpec)

/-- 'laws.FnChangesCount', WHERE WHAT IT READS IS OF BULK AT MOST 1048576: true; the input reads as it did. -/
def fnChangesCountUptoRow : OpenClaim := { program := "ytdjpaibjelfhnaa", sum := "e0748ed95b1113c3d7a40a5155727205b2bcbf734f66144cb545b4e6f0198c9c", func := "loop.example/snapshotfiles/laws.FnChangesCount", spec := "fnChangesCount", apart := false, narrowed := true }
def FnChangesCountUptoSaid : Prop := fnChangesCountUptoRow.holds Try.pinned (OpenSpec.upto fnChangesCountSpec)

end Rows
end Go.Proofs.Ytdjpaibjelfhnaa
