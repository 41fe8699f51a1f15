/-
  No cell of these rows narrows 'for every input' (looked for: loops, veiled, ifaces, maps, wideKeys, modest, calm, conditions, laid).
  DERIVED. THE GIVEN ROWS OF THIS SEAT. 6 by the template 'for every input the law returns true; each argument reads behind the call as it read before'; 0 by the template 'total and deterministic' (their statements: YtemamlgpbcnfjaaTotals.lean).
  GIVEN WITH THE SEED: the statements are not yours to turn. If you find one false, say at which input.
  Laid BY PROGRAM, IN A SANDBOX (cutbox-rows.mjs): the forced cells as the released guide's own fill.sh prints them over the translation 93f7181583c4afef… (all of the seat's roots in one cut). By AI agents, Wed Nov 11 2026. No macro, syntax, notation, axiom, sorry.
-/
import Derived.Test.YtemamlgpbcnfjaaChecked
import GoSem.Claim
import GoSem.ClaimJoined
import GoSem.ClaimMapViews
import Derived.JoinedTies
import Derived.KernelRfl
namespace Go.Proofs.Ytemamlgpbcnfjaa
/- THE CELL 'sum', in the pinned program and in every row, IS THE sha256 OF THE DUMP (.gsa) THAT YtemamlgpbcnfjaaProg.lean LOADS. Nothing in Lean hashes anything: it is a label: what it is worth is what the hold of that sum in a sandbox is worth. -/
noncomputable def Try.pinned : Pinned := { name := "ytemamlgpbcnfjaa", sum := "93f7181583c4afef8eaca823caedee57b67493a716aa4b8df89b9a43337a54ab", checked := Try.checked }
namespace Rows
def none {H : Type} : Left H := { results := [], args := [] }

/-- 'laws.FnMostTake': WHATEVER THE INPUT: true; the input reads as it did. -/
def fnMostTakeSpec : ChangeSpec := { name := "fnMostTake", fn := fun _ => fun
  | [d] => { results := [.lit (.bool true)], args := [d] }
  | _ => none }
def fnMostTakeRow : OpenClaim := { program := "ytemamlgpbcnfjaa", sum := "93f7181583c4afef8eaca823caedee57b67493a716aa4b8df89b9a43337a54ab", func := "loop.example/snapshotfiles/laws.FnMostTake", spec := "fnMostTake", apart := false }
def FnMostTakeSaid : Prop := fnMostTakeRow.holds Try.pinned (OpenSpec.ofChange fnMostTakeSpec)

/-- ITS FALSE NEIGHBOUR: 'it returns false'. Refute it at one input. -/
def fnMostTakeWrong : ChangeSpec := { name := "fnMostTake", fn := fun _ => fun
  | [d] => { results := [.lit (.bool false)], args := [d] }
  | _ => none }
def FnMostTakeWrongFalsely : Prop := fnMostTakeRow.holds Try.pinned (OpenSpec.ofChange fnMostTakeWrong)

/-- 'laws.FnTakeFirst': WHATEVER THE INPUT: true; the input reads as it did. -/
def fnTakeFirstSpec : ChangeSpec := { name := "fnTakeFirst", fn := fun _ => fun
  | [d] => { results := [.lit (.bool true)], args := [d] }
  | _ => none }
def fnTakeFirstRow : OpenClaim := { program := "ytemamlgpbcnfjaa", sum := "93f7181583c4afef8eaca823caedee57b67493a716aa4b8df89b9a43337a54ab", func := "loop.example/snapshotfiles/laws.FnTakeFirst", spec := "fnTakeFirst", apart := false }
def FnTakeFirstSaid : Prop := fnTakeFirstRow.holds Try.pinned (OpenSpec.ofChange fnTakeFirstSpec)

/-- ITS FALSE NEIGHBOUR: 'it returns false'. Refute it at one input. -/
def fnTakeFirstWrong : ChangeSpec := { name := "fnTakeFirst", fn := fun _ => fun
  | [d] => { results := [.lit (.bool false)], args := [d] }
  | _ => none }
def FnTakeFirstWrongFalsely : Prop := fnTakeFirstRow.holds Try.pinned (OpenSpec.ofChange fnTakeFirstWrong)

/-- 'laws.FnExactSpaceTake': WHATEVER THE INPUT: true; the input reads as it did. -/
def fnExactSpaceTakeSpec : ChangeSpec := { name := "fnExactSpaceTake", fn := fun _ => fun
  | [d1, d2] => { results := [.lit (.bool true)], args := [d1, d2] }
  | _ => none }
def fnExactSpaceTakeRow : OpenClaim := { program := "ytemamlgpbcnfjaa", sum := "93f7181583c4afef8eaca823caedee57b67493a716aa4b8df89b9a43337a54ab", func := "loop.example/snapshotfiles/laws.FnExactSpaceTake", spec := "fnExactSpaceTake", apart := false }
def FnExactSpaceTakeSaid : Prop := fnExactSpaceTakeRow.holds Try.pinned (OpenSpec.ofChange fnExactSpaceTakeSpec)

/-- ITS FALSE NEIGHBOUR: 'it returns false'. Refute it at one input. -/
def fnExactSpaceTakeWrong : ChangeSpec := { name := "fnExactSpaceTake", fn := fun _ => fun
  | [d1, d2] => { results := [.lit (.bool false)], args := [d1, d2] }
  | _ => none }
def FnExactSpaceTakeWrongFalsely : Prop := fnExactSpaceTakeRow.holds Try.pinned (OpenSpec.ofChange fnExactSpaceTakeWrong)

/-- 'laws.FnTake': WHATEVER THE INPUT: true; the input reads as it did. -/
def fnTakeSpec : ChangeSpec := { name := "fnTake", fn := fun _ => fun
  | [d] => { results := [.lit (.bool true)], args := [d] }
  | _ => none }
def fnTakeRow : OpenClaim := { program := "ytemamlgpbcnfjaa", sum := "93f7181583c4afef8eaca823caedee57b67493a716aa4b8df89b9a43337a54ab", func := "loop.example/snapshotfiles/laws.FnTake", spec := "fnTake", apart := false }
def FnTakeSaid : Prop := fnTakeRow.holds Try.pinned (OpenSpec.ofChange fnTakeSpec)

/-- ITS FALSE NEIGHBOUR: 'it returns false'. Refute it at one input. -/
def fnTakeWrong : ChangeSpec := { name := "fnTake", fn := fun _ => fun
  | [d] => { results := [.lit (.bool false)], args := [d] }
  | _ => none }
def FnTakeWrongFalsely : Prop := fnTakeRow.holds Try.pinned (OpenSpec.ofChange fnTakeWrong)

/-- 'laws.FnTakeMost': WHATEVER THE INPUT: true; the input reads as it did. -/
def fnTakeMostSpec : ChangeSpec := { name := "fnTakeMost", fn := fun _ => fun
  | [d] => { results := [.lit (.bool true)], args := [d] }
  | _ => none }
def fnTakeMostRow : OpenClaim := { program := "ytemamlgpbcnfjaa", sum := "93f7181583c4afef8eaca823caedee57b67493a716aa4b8df89b9a43337a54ab", func := "loop.example/snapshotfiles/laws.FnTakeMost", spec := "fnTakeMost", apart := false }
def FnTakeMostSaid : Prop := fnTakeMostRow.holds Try.pinned (OpenSpec.ofChange fnTakeMostSpec)

/-- ITS FALSE NEIGHBOUR: 'it returns false'. Refute it at one input. -/
def fnTakeMostWrong : ChangeSpec := { name := "fnTakeMost", fn := fun _ => fun
  | [d] => { results := [.lit (.bool false)], args := [d] }
  | _ => none }
def FnTakeMostWrongFalsely : Prop := fnTakeMostRow.holds Try.pinned (OpenSpec.ofChange fnTakeMostWrong)

/-- 'laws.FnTakeOthers': WHATEVER THE INPUT: true; the input reads as it did. -/
def fnTakeOthersSpec : ChangeSpec := { name := "fnTakeOthers", fn := fun _ => fun
  | [d1, d2] => { results := [.lit (.bool true)], args := [d1, d2] }
  | _ => none }
def fnTakeOthersRow : OpenClaim := { program := "ytemamlgpbcnfjaa", sum := "93f7181583c4afef8eaca823caedee57b67493a716aa4b8df89b9a43337a54ab", func := "loop.example/snapshotfiles/laws.FnTakeOthers", spec := "fnTakeOthers", apart := false }
def FnTakeOthersSaid : Prop := fnTakeOthersRow.holds Try.pinned (OpenSpec.ofChange fnTakeOthersSpec)

/-- ITS FALSE NEIGHBOUR: 'it returns false'. Refute it at one input. -/
def fnTakeOthersWrong : ChangeSpec := { name := "fnTakeOthers", fn := fun _ => fun
  | [d1, d2] => { results := [.lit (.bool false)], args := [d1, d2] }
  | _ => none }
def FnTakeOthersWrongFalsely : Prop := fnTakeOthersRow.holds Try.pinned (OpenSpec.ofChange fnTakeOthersWrong)

/- THE SECOND FORM. 'bulk': how many values and letters a reading holds, each counted each time it is reached (what is shared counts as often as it is met; a slice's spare places count too). A statement '..UptoSaid' is the law's where the arguments, and the package variables that the reading takes, are together of bulk at most 1048576: NARROWER than '..Said'. Prove '..Said' where nothing that the law and all that it calls make is longer than what came in: it says more and counts as full. Else prove '..UptoSaid'. A law counts once. -/
mutual
def uptoBulk {H : Type} : DataW H → Nat
  | .lit (.string bytes) => bytes.length + 1
  | .lit _ => 1
  | .nil => 1
  | .ptr d => uptoBulk d + 1
  | .slice elems spare => uptoBulkAll elems + uptoBulkAll spare + 1
  | .agg parts => uptoBulkAll parts + 1
  | .iface _ d => uptoBulk d + 1
  | .map entries => uptoBulkEntries entries + 1
  | .held _ => 1
def uptoBulkAll {H : Type} : List (DataW H) → Nat
  | [] => 0
  | d :: r => uptoBulk d + uptoBulkAll r
def uptoBulkEntries {H : Type} : List (Lit × DataW H) → Nat
  | [] => 0
  | x :: r => uptoBulkEntry x + uptoBulkEntries r
def uptoBulkEntry {H : Type} : Lit × DataW H → Nat
  | (.string bytes, d) => bytes.length + uptoBulk d + 1
  | (_, d) => uptoBulk d + 1
 end
def uptoSmall : (H : Type) → List (DataW H) → Bool := fun _ ds => decide (uptoBulkAll ds ≤ 1048576)
def OpenSpec.upto (s : _root_.Go.ChangeSpec) : _root_.Go.OpenSpec := { _root_.Go.OpenSpec.ofChange s with cond := some uptoSmall }

/-- 'laws.FnMostTake', WHERE WHAT IT READS IS OF BULK AT MOST 1048576: true; the input reads as it did. -/
def fnMostTakeUptoRow : OpenClaim := { program := "ytemamlgpbcnfjaa", sum := "93f7181583c4afef8eaca823caedee57b67493a716aa4b8df89b9a43337a54ab", func := "loop.example/snapshotfiles/laws.FnMostTake", spec := "fnMostTake", apart := false, narrowed := true }
def FnMostTakeUptoSaid : Prop := fnMostTakeUptoRow.holds Try.pinned (OpenSpec.upto fnMostTakeSpec)

/-- 'laws.FnTakeFirst', WHERE WHAT IT READS IS OF BULK AT MOST 1048576: true; the input reads as it did. -/
def fnTakeFirstUptoRow : OpenClaim := { program := "ytemamlgpbcnfjaa", sum := "93f7181583c4afef8eaca823caedee57b67493a716aa4b8df89b9a43337a54ab", func := "loop.example/snapshotfiles/laws.FnTakeFirst", spec := "fnTakeFirst", apart := false, narrowed := true }
def FnTakeFirstUptoSaid : Prop := fnTakeFirstUptoRow.holds Try.pinned (OpenSpec.upto fnTakeFirstSpec)

/-- 'laws.FnExactSpaceTake', WHERE WHAT IT READS IS OF BULK AT MOST 1048576: true; the input reads as it did. -/
def fnExactSpaceTakeUptoRow : OpenClaim := { program := "ytemamlgpbcnfjaa", sum := "93f7181583c4afef8eaca823caedee57b67493a716aa4b8df89b9a43337a54ab", func := "loop.example/snapshotfiles/laws.FnExactSpaceTake", spec := "fnExactSpaceTake", apart := false, narrowed := true }
def FnExactSpaceTakeUptoSaid : Prop := fnExactSpaceTakeUptoRow.holds Try.pinned (OpenSpec.upto fnExactSpaceTakeSpec)

/-- 'laws.FnTake', WHERE WHAT IT READS IS OF BULK AT MOST 1048576: true; the input reads as it did. -/
def fnTakeUptoRow : OpenClaim := { program := "ytemamlgpbcnfjaa", sum := "93f7181583c4afef8eaca823caedee57b67493a716aa4b8df89b9a43337a54ab", func := "loop.example/snapshotfiles/laws.FnTake", spec := "fnTake", apart := false, narrowed := true }
def FnTakeUptoSaid : Prop := fnTakeUptoRow.holds Try.pinned (OpenSpec.upto fnTakeSpec)

/-- 'laws.FnTakeMost', WHERE WHAT IT READS IS OF BULK AT MOST 1048576: true; the input reads as it did. -/
def fnTakeMostUptoRow : OpenClaim := { program := "ytemamlgpbcnfjaa", sum := "93f7181583c4afef8eaca823caedee57b67493a716aa4b8df89b9a43337a54ab", func := "loop.example/snapshotfiles/laws.FnTakeMost", spec := "fnTakeMost", apart := false, narrowed := true }
def FnTakeMostUptoSaid : Prop := fnTakeMostUptoRow.holds Try.pinned (OpenSpec.upto fnTakeMostSpec)

/-- 'laws.FnTakeOthers', WHERE WHAT IT READS IS OF BULK AT MOST 1048576: true; the input reads as it did. -/
def fnTakeOthersUptoRow : OpenClaim := { program := "ytemamlgpbcnfjaa", sum := "93f7181583c4afef8eaca823caedee57b67493a716aa4b8df89b9a43337a54ab", func := "loop.example/snapshotfiles/laws.FnTakeOthers", spec := "fnTakeOthers", apart := false, narrowed := true }
def FnTakeOthersUptoSaid : Prop := fnTakeOthersUptoRow.holds Try.pinned (OpenSpec.upto fnTakeOthersSpec)

end Rows
end Go.Proofs.Ytemamlgpbcnfjaa
