/-
  No cell of these rows narrows 'for every input' (looked for: loops, veiled, ifaces, maps, wideKeys, modest, calm, conditions, laid).
  DERIVED. THE GIVEN ROWS OF THIS SEAT. 5 by the template 'for every input the law returns true; each argument reads behind the call as it read before'; 0 by the template 'total and deterministic' (their statements: YthcjelijpeddbaaTotals.lean).
  GIVEN WITH THE SEED: the statements are not yours to turn. If you find one false, say at which input.
  Laid BY PROGRAM, IN A SANDBOX (cutbox-rows.mjs): the forced cells as the released guide's own fill.sh prints them over the translation 6793066e6beedc42… (all of the seat's roots in one cut). By AI agents, Wed Nov 11 2026. No macro, syntax, notation, axiom, sorry.
-/
import Derived.Test.YthcjelijpeddbaaChecked
import GoSem.Claim
import GoSem.ClaimJoined
import GoSem.ClaimMapViews
import Derived.JoinedTies
import Derived.KernelRfl
namespace Go.Proofs.Ythcjelijpeddbaa
/- THE CELL 'sum', in the pinned program and in every row, IS THE sha256 OF THE DUMP (.gsa) THAT YthcjelijpeddbaaProg.lean LOADS. Nothing in Lean hashes anything: it is a label: what it is worth is what the hold of that sum in a sandbox is worth. -/
noncomputable def Try.pinned : Pinned := { name := "ythcjelijpeddbaa", sum := "6793066e6beedc42df627cce7822e9b68b4a39515fa203c1b0aa8e255cbcd334", checked := Try.checked }
namespace Rows
def none {H : Type} : Left H := { results := [], args := [] }

/-- 'laws.FnTakeGive': WHATEVER THE INPUT: true; the input reads as it did. -/
def fnTakeGiveSpec : ChangeSpec := { name := "fnTakeGive", fn := fun _ => fun
  | [d] => { results := [.lit (.bool true)], args := [d] }
  | _ => none }
def fnTakeGiveRow : OpenClaim := { program := "ythcjelijpeddbaa", sum := "6793066e6beedc42df627cce7822e9b68b4a39515fa203c1b0aa8e255cbcd334", func := "loop.example/snapshotfiles/laws.FnTakeGive", spec := "fnTakeGive", apart := false }
def FnTakeGiveSaid : Prop := fnTakeGiveRow.holds Try.pinned (OpenSpec.ofChange fnTakeGiveSpec)

/-- ITS FALSE NEIGHBOUR: 'it returns false'. Refute it at one input. -/
def fnTakeGiveWrong : ChangeSpec := { name := "fnTakeGive", fn := fun _ => fun
  | [d] => { results := [.lit (.bool false)], args := [d] }
  | _ => none }
def FnTakeGiveWrongFalsely : Prop := fnTakeGiveRow.holds Try.pinned (OpenSpec.ofChange fnTakeGiveWrong)

/-- 'laws.FnGiveParts': WHATEVER THE INPUT: true; the input reads as it did. -/
def fnGivePartsSpec : ChangeSpec := { name := "fnGiveParts", fn := fun _ => fun
  | [d] => { results := [.lit (.bool true)], args := [d] }
  | _ => none }
def fnGivePartsRow : OpenClaim := { program := "ythcjelijpeddbaa", sum := "6793066e6beedc42df627cce7822e9b68b4a39515fa203c1b0aa8e255cbcd334", func := "loop.example/snapshotfiles/laws.FnGiveParts", spec := "fnGiveParts", apart := false }
def FnGivePartsSaid : Prop := fnGivePartsRow.holds Try.pinned (OpenSpec.ofChange fnGivePartsSpec)

/-- ITS FALSE NEIGHBOUR: 'it returns false'. Refute it at one input. -/
def fnGivePartsWrong : ChangeSpec := { name := "fnGiveParts", fn := fun _ => fun
  | [d] => { results := [.lit (.bool false)], args := [d] }
  | _ => none }
def FnGivePartsWrongFalsely : Prop := fnGivePartsRow.holds Try.pinned (OpenSpec.ofChange fnGivePartsWrong)

/-- 'laws.FnExactSpaceGive': WHATEVER THE INPUT: true; the input reads as it did. -/
def fnExactSpaceGiveSpec : ChangeSpec := { name := "fnExactSpaceGive", fn := fun _ => fun
  | [d1, d2] => { results := [.lit (.bool true)], args := [d1, d2] }
  | _ => none }
def fnExactSpaceGiveRow : OpenClaim := { program := "ythcjelijpeddbaa", sum := "6793066e6beedc42df627cce7822e9b68b4a39515fa203c1b0aa8e255cbcd334", func := "loop.example/snapshotfiles/laws.FnExactSpaceGive", spec := "fnExactSpaceGive", apart := false }
def FnExactSpaceGiveSaid : Prop := fnExactSpaceGiveRow.holds Try.pinned (OpenSpec.ofChange fnExactSpaceGiveSpec)

/-- ITS FALSE NEIGHBOUR: 'it returns false'. Refute it at one input. -/
def fnExactSpaceGiveWrong : ChangeSpec := { name := "fnExactSpaceGive", fn := fun _ => fun
  | [d1, d2] => { results := [.lit (.bool false)], args := [d1, d2] }
  | _ => none }
def FnExactSpaceGiveWrongFalsely : Prop := fnExactSpaceGiveRow.holds Try.pinned (OpenSpec.ofChange fnExactSpaceGiveWrong)

/-- 'laws.FnGiveOthers': WHATEVER THE INPUT: true; the input reads as it did. -/
def fnGiveOthersSpec : ChangeSpec := { name := "fnGiveOthers", fn := fun _ => fun
  | [d1, d2] => { results := [.lit (.bool true)], args := [d1, d2] }
  | _ => none }
def fnGiveOthersRow : OpenClaim := { program := "ythcjelijpeddbaa", sum := "6793066e6beedc42df627cce7822e9b68b4a39515fa203c1b0aa8e255cbcd334", func := "loop.example/snapshotfiles/laws.FnGiveOthers", spec := "fnGiveOthers", apart := false }
def FnGiveOthersSaid : Prop := fnGiveOthersRow.holds Try.pinned (OpenSpec.ofChange fnGiveOthersSpec)

/-- ITS FALSE NEIGHBOUR: 'it returns false'. Refute it at one input. -/
def fnGiveOthersWrong : ChangeSpec := { name := "fnGiveOthers", fn := fun _ => fun
  | [d1, d2] => { results := [.lit (.bool false)], args := [d1, d2] }
  | _ => none }
def FnGiveOthersWrongFalsely : Prop := fnGiveOthersRow.holds Try.pinned (OpenSpec.ofChange fnGiveOthersWrong)

/-- 'laws.FnGive': WHATEVER THE INPUT: true; the input reads as it did. -/
def fnGiveSpec : ChangeSpec := { name := "fnGive", fn := fun _ => fun
  | [d] => { results := [.lit (.bool true)], args := [d] }
  | _ => none }
def fnGiveRow : OpenClaim := { program := "ythcjelijpeddbaa", sum := "6793066e6beedc42df627cce7822e9b68b4a39515fa203c1b0aa8e255cbcd334", func := "loop.example/snapshotfiles/laws.FnGive", spec := "fnGive", apart := false }
def FnGiveSaid : Prop := fnGiveRow.holds Try.pinned (OpenSpec.ofChange fnGiveSpec)

/-- ITS FALSE NEIGHBOUR: 'it returns false'. Refute it at one input. -/
def fnGiveWrong : ChangeSpec := { name := "fnGive", fn := fun _ => fun
  | [d] => { results := [.lit (.bool false)], args := [d] }
  | _ => none }
def FnGiveWrongFalsely : Prop := fnGiveRow.holds Try.pinned (OpenSpec.ofChange fnGiveWrong)

/- THE SECOND FORM. 'bulk': how many values and letters a reading holds, each counted each time it is reached (what is shared counts as often as it is met; a slice's spare places count too). A statement '..UptoSaid' is the law's where the arguments, and the package variables that the reading takes, are together of bulk at most 1048576: NARROWER than '..Said'. Prove '..Said' where nothing that the law and all that it calls make is longer than what came in: it says more and counts as full. Else prove '..UptoSaid'. A law counts once. -/
mutual
def uptoBulk {H : Type} : DataW H → Nat
  | .lit (.string bytes) => bytes.length + 1
  | .lit _ => 1
  | .nil => 1
  | .ptr d => uptoBulk d + 1
  | .slice elems spare => uptoBulkAll elems + uptoBulkAll spare + 1
  | .agg parts => uptoBulkAll parts + 1
  | .iface _ d => uptoBulk d + 1
  | .map entries => uptoBulkEntries entries + 1
  | .held _ => 1
def uptoBulkAll {H : Type} : List (DataW H) → Nat
  | [] => 0
  | d :: r => uptoBulk d + uptoBulkAll r
def uptoBulkEntries {H : Type} : List (Lit × DataW H) → Nat
  | [] => 0
  | x :: r => uptoBulkEntry x + uptoBulkEntries r
def uptoBulkEntry {H : Type} : Lit × DataW H → Nat
  | (.string bytes, d) => bytes.length + uptoBulk d + 1
  | (_, d) => uptoBulk d + 1
 end
def uptoSmall : (H : Type) → List (DataW H) → Bool := fun _ ds => decide (uptoBulkAll ds ≤ 1048576)
def OpenSpec.upto (s : _root_.Go.ChangeSpec) : _root_.Go.OpenSpec := { _root_.Go.OpenSpec.ofChange s with cond := some uptoSmall }

/-- 'laws.FnTakeGive', WHERE WHAT IT READS IS OF BULK AT MOST 1048576: true; the input reads as it did. -/
def fnTakeGiveUptoRow : OpenClaim := { program := "ythcjelijpeddbaa", sum := "6793066e6beedc42df627cce7822e9b68b4a39515fa203c1b0aa8e255cbcd334", func := "loop.example/snapshotfiles/laws.FnTakeGive", spec := "fnTakeGive", apart := false, narrowed := true }
def FnTakeGiveUptoSaid : Prop := fnTakeGiveUptoRow.holds Try.pinned (OpenSpec.upto fnTakeGiveSpec)

/-- 'laws.FnGiveParts', WHERE WHAT IT READS IS OF BULK AT MOST 1048576: true; the input reads as it did. -/
def fnGivePartsUptoRow : OpenClaim := { program := "ythcjelijpeddbaa", sum := "6793066e6beedc42df627cce7822e9b68b4a39515fa203c1b0aa8e255cbcd334", func := "loop.example/snapshotfiles/laws.FnGiveParts", spec := "fnGiveParts", apart := false, narrowed := true }
def FnGivePartsUptoSaid : Prop := fnGivePartsUptoRow.holds Try.pinned (OpenSpec.upto fnGivePartsSpec)

/-- 'laws.FnExactSpaceGive', WHERE WHAT IT READS IS OF BULK AT MOST 1048576: true; the input reads as it did. -/
def fnExactSpaceGiveUptoRow : OpenClaim := { program := "ythcjelijpeddbaa", sum := "6793066e6beedc42df627cce7822e9b68b4a39515fa203c1b0aa8e255cbcd334", func := "loop.example/snapshotfiles/laws.FnExactSpaceGive", spec := "fnExactSpaceGive", apart := false, narrowed := true }
def FnExactSpaceGiveUptoSaid : Prop := fnExactSpaceGiveUptoRow.holds Try.pinned (OpenSpec.upto fnExactSpaceGiveSpec)

/-- 'laws.FnGiveOthers', WHERE WHAT IT READS IS OF BULK AT MOST 1048576: true; the input reads as it did. -/
def fnGiveOthersUptoRow : OpenClaim := { program := "ythcjelijpeddbaa", sum := "6793066e6beedc42df627cce7822e9b68b4a39515fa203c1b0aa8e255cbcd334", func := "loop.example/snapshotfiles/laws.FnGiveOthers", spec := "fnGiveOthers", apart := false, narrowed := true }
def FnGiveOthersUptoSaid : Prop := fnGiveOthersUptoRow.holds Try.pinned (OpenSpec.upto fnGiveOthersSpec)

/-- 'laws.FnGive', WHERE WHAT IT READS IS OF BULK AT MOST 1048576: true; the input reads as it did. -/
def fnGiveUptoRow : OpenClaim := { program := "ythcjelijpeddbaa", sum := "6793066e6beedc42df627cce7822e9b68b4a39515fa203c1b0aa8e255cbcd334", func := "loop.example/snapshotfiles/laws.FnGive", spec := "fnGive", apart := false, narrowed := true }
def FnGiveUptoSaid : Prop := fnGiveUptoRow.holds Try.pinned (OpenSpec.upto fnGiveSpec)

end Rows
end Go.Proofs.Ythcjelijpeddbaa
