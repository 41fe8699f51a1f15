/-
  No cell of these rows narrows 'for every input' (looked for: loops, veiled, ifaces, maps, wideKeys, modest, calm, conditions, laid).
  DERIVED. THE GIVEN ROWS OF THIS SEAT. 6 by the template 'for every input the law returns true; each argument reads behind the call as it read before'; 0 by the template 'total and deterministic' (their statements: YtblejobcjcejpaaTotals.lean).
  GIVEN WITH THE SEED: the statements are not yours to turn. If you find one false, say at which input.
  Laid BY PROGRAM, IN A SANDBOX (cutbox-rows.mjs): the forced cells as the released guide's own fill.sh prints them over the translation 5ee648a62d6375b7… (all of the seat's roots in one cut). By AI agents, Wed Nov 11 2026. No macro, syntax, notation, axiom, sorry.
-/
import Derived.Test.YtblejobcjcejpaaChecked
import GoSem.Claim
import GoSem.ClaimJoined
import GoSem.ClaimMapViews
import Derived.JoinedTies
import Derived.KernelRfl
namespace Go.Proofs.Ytblejobcjcejpaa
/- THE CELL 'sum', in the pinned program and in every row, IS THE sha256 OF THE DUMP (.gsa) THAT YtblejobcjcejpaaProg.lean LOADS. Nothing in Lean hashes anything: it is a label: what it is worth is what the hold of that sum in a sandbox is worth. -/
noncomputable def Try.pinned : Pinned := { name := "ytblejobcjcejpaa", sum := "5ee648a62d6375b72e8ba6820374cd983b26cdec13e499333eae3019cb7b317f", checked := Try.checked }
namespace Rows
def none {H : Type} : Left H := { results := [], args := [] }

/-- 'laws.FnExactSpaceValid': WHATEVER THE INPUT: true; the input reads as it did. -/
def fnExactSpaceValidSpec : ChangeSpec := { name := "fnExactSpaceValid", fn := fun _ => fun
  | [d] => { results := [.lit (.bool true)], args := [d] }
  | _ => none }
def fnExactSpaceValidRow : OpenClaim := { program := "ytblejobcjcejpaa", sum := "5ee648a62d6375b72e8ba6820374cd983b26cdec13e499333eae3019cb7b317f", func := "loop.example/snapshotfiles/laws.FnExactSpaceValid", spec := "fnExactSpaceValid", apart := false }
def FnExactSpaceValidSaid : Prop := fnExactSpaceValidRow.holds Try.pinned (OpenSpec.ofChange fnExactSpaceValidSpec)

/-- ITS FALSE NEIGHBOUR: 'it returns false'. Refute it at one input. -/
def fnExactSpaceValidWrong : ChangeSpec := { name := "fnExactSpaceValid", fn := fun _ => fun
  | [d] => { results := [.lit (.bool false)], args := [d] }
  | _ => none }
def FnExactSpaceValidWrongFalsely : Prop := fnExactSpaceValidRow.holds Try.pinned (OpenSpec.ofChange fnExactSpaceValidWrong)

/-- 'laws.FnSpacePart': WHATEVER THE INPUT: true; the input reads as it did. -/
def fnSpacePartSpec : ChangeSpec := { name := "fnSpacePart", fn := fun _ => fun
  | [d1, d2] => { results := [.lit (.bool true)], args := [d1, d2] }
  | _ => none }
def fnSpacePartRow : OpenClaim := { program := "ytblejobcjcejpaa", sum := "5ee648a62d6375b72e8ba6820374cd983b26cdec13e499333eae3019cb7b317f", func := "loop.example/snapshotfiles/laws.FnSpacePart", spec := "fnSpacePart", apart := false }
def FnSpacePartSaid : Prop := fnSpacePartRow.holds Try.pinned (OpenSpec.ofChange fnSpacePartSpec)

/-- ITS FALSE NEIGHBOUR: 'it returns false'. Refute it at one input. -/
def fnSpacePartWrong : ChangeSpec := { name := "fnSpacePart", fn := fun _ => fun
  | [d1, d2] => { results := [.lit (.bool false)], args := [d1, d2] }
  | _ => none }
def FnSpacePartWrongFalsely : Prop := fnSpacePartRow.holds Try.pinned (OpenSpec.ofChange fnSpacePartWrong)

/-- 'laws.FnExactSpaceFree': WHATEVER THE INPUT: true; the input reads as it did. -/
def fnExactSpaceFreeSpec : ChangeSpec := { name := "fnExactSpaceFree", fn := fun _ => fun
  | [d] => { results := [.lit (.bool true)], args := [d] }
  | _ => none }
def fnExactSpaceFreeRow : OpenClaim := { program := "ytblejobcjcejpaa", sum := "5ee648a62d6375b72e8ba6820374cd983b26cdec13e499333eae3019cb7b317f", func := "loop.example/snapshotfiles/laws.FnExactSpaceFree", spec := "fnExactSpaceFree", apart := false }
def FnExactSpaceFreeSaid : Prop := fnExactSpaceFreeRow.holds Try.pinned (OpenSpec.ofChange fnExactSpaceFreeSpec)

/-- ITS FALSE NEIGHBOUR: 'it returns false'. Refute it at one input. -/
def fnExactSpaceFreeWrong : ChangeSpec := { name := "fnExactSpaceFree", fn := fun _ => fun
  | [d] => { results := [.lit (.bool false)], args := [d] }
  | _ => none }
def FnExactSpaceFreeWrongFalsely : Prop := fnExactSpaceFreeRow.holds Try.pinned (OpenSpec.ofChange fnExactSpaceFreeWrong)

/-- 'laws.FnExactSpaceMost': WHATEVER THE INPUT: true; the input reads as it did. -/
def fnExactSpaceMostSpec : ChangeSpec := { name := "fnExactSpaceMost", fn := fun _ => fun
  | [d] => { results := [.lit (.bool true)], args := [d] }
  | _ => none }
def fnExactSpaceMostRow : OpenClaim := { program := "ytblejobcjcejpaa", sum := "5ee648a62d6375b72e8ba6820374cd983b26cdec13e499333eae3019cb7b317f", func := "loop.example/snapshotfiles/laws.FnExactSpaceMost", spec := "fnExactSpaceMost", apart := false }
def FnExactSpaceMostSaid : Prop := fnExactSpaceMostRow.holds Try.pinned (OpenSpec.ofChange fnExactSpaceMostSpec)

/-- ITS FALSE NEIGHBOUR: 'it returns false'. Refute it at one input. -/
def fnExactSpaceMostWrong : ChangeSpec := { name := "fnExactSpaceMost", fn := fun _ => fun
  | [d] => { results := [.lit (.bool false)], args := [d] }
  | _ => none }
def FnExactSpaceMostWrongFalsely : Prop := fnExactSpaceMostRow.holds Try.pinned (OpenSpec.ofChange fnExactSpaceMostWrong)

/-- 'laws.FnMost': WHATEVER THE INPUT: true; the input reads as it did. -/
def fnMostSpec : ChangeSpec := { name := "fnMost", fn := fun _ => fun
  | [d] => { results := [.lit (.bool true)], args := [d] }
  | _ => none }
def fnMostRow : OpenClaim := { program := "ytblejobcjcejpaa", sum := "5ee648a62d6375b72e8ba6820374cd983b26cdec13e499333eae3019cb7b317f", func := "loop.example/snapshotfiles/laws.FnMost", spec := "fnMost", apart := false }
def FnMostSaid : Prop := fnMostRow.holds Try.pinned (OpenSpec.ofChange fnMostSpec)

/-- ITS FALSE NEIGHBOUR: 'it returns false'. Refute it at one input. -/
def fnMostWrong : ChangeSpec := { name := "fnMost", fn := fun _ => fun
  | [d] => { results := [.lit (.bool false)], args := [d] }
  | _ => none }
def FnMostWrongFalsely : Prop := fnMostRow.holds Try.pinned (OpenSpec.ofChange fnMostWrong)

/-- 'laws.FnFreeMost': WHATEVER THE INPUT: true; the input reads as it did. -/
def fnFreeMostSpec : ChangeSpec := { name := "fnFreeMost", fn := fun _ => fun
  | [d] => { results := [.lit (.bool true)], args := [d] }
  | _ => none }
def fnFreeMostRow : OpenClaim := { program := "ytblejobcjcejpaa", sum := "5ee648a62d6375b72e8ba6820374cd983b26cdec13e499333eae3019cb7b317f", func := "loop.example/snapshotfiles/laws.FnFreeMost", spec := "fnFreeMost", apart := false }
def FnFreeMostSaid : Prop := fnFreeMostRow.holds Try.pinned (OpenSpec.ofChange fnFreeMostSpec)

/-- ITS FALSE NEIGHBOUR: 'it returns false'. Refute it at one input. -/
def fnFreeMostWrong : ChangeSpec := { name := "fnFreeMost", fn := fun _ => fun
  | [d] => { results := [.lit (.bool false)], args := [d] }
  | _ => none }
def FnFreeMostWrongFalsely : Prop := fnFreeMostRow.holds Try.pinned (OpenSpec.ofChange fnFreeMostWrong)

/- THE SECOND FORM. 'bulk': how many values and letters a reading holds, each counted each time it is reached (what is shared counts as often as it is met; a slice's spare places count too). A statement '..UptoSaid' is the law's where the arguments, and the package variables that the reading takes, are together of bulk at most 1048576: NARROWER than '..Said'. Prove '..Said' where nothing that the law and all that it calls make is longer than what came in: it says more and counts as full. Else prove '..UptoSaid'. A law counts once. -/
mutual
def uptoBulk {H : Type} : DataW H → Nat
  | .lit (.string bytes) => bytes.length + 1
  | .lit _ => 1
  | .nil => 1
  | .ptr d => uptoBulk d + 1
  | .slice elems spare => uptoBulkAll elems + uptoBulkAll spare + 1
  | .agg parts => uptoBulkAll parts + 1
  | .iface _ d => uptoBulk d + 1
  | .map entries => uptoBulkEntries entries + 1
  | .held _ => 1
def uptoBulkAll {H : Type} : List (DataW H) → Nat
  | [] => 0
  | d :: r => uptoBulk d + uptoBulkAll r
def uptoBulkEntries {H : Type} : List (Lit × DataW H) → Nat
  | [] => 0
  | x :: r => uptoBulkEntry x + uptoBulkEntries r
def uptoBulkEntry {H : Type} : Lit × DataW H → Nat
  | (.string bytes, d) => bytes.length + uptoBulk d + 1
  | (_, d) => uptoBulk d + 1
 end
def uptoSmall : (H : Type) → List (DataW H) → Bool := fun _ ds => decide (uptoBulkAll ds ≤ 1048576)
def OpenSpec.upto (s : _root_.Go.ChangeSpec) : _root_.Go.OpenSpec := { _root_.Go.OpenSpec.ofChange s with cond := some uptoSmall }

/-- 'laws.FnExactSpaceValid', WHERE WHAT IT READS IS OF BULK AT MOST 1048576: true; the input reads as it did. -/
def fnExactSpaceValidUptoRow : OpenClaim := { program := "ytblejobcjcejpaa", sum := "5ee648a62d6375b72e8ba6820374cd983b26cdec13e499333eae3019cb7b317f", func := "loop.example/snapshotfiles/laws.FnExactSpaceValid", spec := "fnExactSpaceValid", apart := false, narrowed := true }
def FnExactSpaceValidUptoSaid : Prop := fnExactSpaceValidUptoRow.holds Try.pinned (OpenSpec.upto fnExactSpaceValidSpec)

/-- 'laws.FnSpacePart', WHERE WHAT IT READS IS OF BULK AT MOST 1048576: true; the input reads as it did. -/
def fnSpacePartUptoRow : OpenClaim := { program := "ytblejobcjcejpaa", sum := "5ee648a62d6375b72e8ba6820374cd983b26cdec13e499333eae3019cb7b317f", func := "loop.example/snapshotfiles/laws.FnSpacePart", spec := "fnSpacePart", apart := false, narrowed := true }
def FnSpacePartUptoSaid : Prop := fnSpacePartUptoRow.holds Try.pinned (OpenSpec.upto fnSpacePartSpec)

/-- 'laws.FnExactSpaceFree', WHERE WHAT IT READS IS OF BULK AT MOST 1048576: true; the input reads as it did. -/
def fnExactSpaceFreeUptoRow : OpenClaim := { program := "ytblejobcjcejpaa", sum := "5ee648a62d6375b72e8ba6820374cd983b26cdec13e499333eae3019cb7b317f", func := "loop.example/snapshotfiles/laws.FnExactSpaceFree", spec := "fnExactSpaceFree", apart := false, narrowed := true }
def FnExactSpaceFreeUptoSaid : Prop := fnExactSpaceFreeUptoRow.holds Try.pinned (OpenSpec.upto fnExactSpaceFreeSpec)

/-- 'laws.FnExactSpaceMost', WHERE WHAT IT READS IS OF BULK AT MOST 1048576: true; the input reads as it did. -/
def fnExactSpaceMostUptoRow : OpenClaim := { program := "ytblejobcjcejpaa", sum := "5ee648a62d6375b72e8ba6820374cd983b26cdec13e499333eae3019cb7b317f", func := "loop.example/snapshotfiles/laws.FnExactSpaceMost", spec := "fnExactSpaceMost", apart := false, narrowed := true }
def FnExactSpaceMostUptoSaid : Prop := fnExactSpaceMostUptoRow.holds Try.pinned (OpenSpec.upto fnExactSpaceMostSpec)

/-- 'laws.FnMost', WHERE WHAT IT READS IS OF BULK AT MOST 1048576: true; the input reads as it did. -/
def fnMostUptoRow : OpenClaim := { program := "ytblejobcjcejpaa", sum := "5ee648a62d6375b72e8ba6820374cd983b26cdec13e499333eae3019cb7b317f", func := "loop.example/snapshotfiles/laws.FnMost", spec := "fnMost", apart := false, narrowed := true }
def FnMostUptoSaid : Prop := fnMostUptoRow.holds Try.pinned (OpenSpec.upto fnMostSpec)

/-- 'laws.FnFreeMost', WHERE WHAT IT READS IS OF BULK AT MOST 1048576: true; the input reads as it did. -/
def fnFreeMostUptoRow : OpenClaim := { program := "ytblejobcjcejpaa", sum := "5ee648a62d6375b72e8ba6820374cd983b26cdec13e499333eae3019cb7b317f", func := "loop.example/snapshotfiles/laws.FnFreeMost", spec := "fnFreeMost", apart := false, narrowed := true }
def FnFreeMostUptoSaid : Prop := fnFreeMostUptoRow.holds Try.pinned (OpenSpec.upto fnFreeMostSpec)

end Rows
end Go.Proofs.Ytblejobcjcejpaa
