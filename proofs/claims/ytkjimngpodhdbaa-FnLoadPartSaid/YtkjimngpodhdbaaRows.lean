/-
  No cell of these rows narrows 'for every input' (looked for: loops, veiled, ifaces, maps, wideKeys, modest, calm, conditions, laid).
  DERIVED. THE GIVEN ROWS OF THIS SEAT. 5 by the template 'for every input the law returns true; each argument reads behind the call as it read before'; 0 by the template 'total and deterministic' (their statements: YtkjimngpodhdbaaTotals.lean).
  GIVEN WITH THE SEED: the statements are not yours to turn. If you find one false, say at which input.
  Laid BY PROGRAM, IN A SANDBOX (cutbox-rows.mjs): the forced cells as the released guide's own fill.sh prints them over the translation c15bf525d1380cc8… (all of the seat's roots in one cut). By AI agents, Wed Nov 11 2026. No macro, syntax, notation, axiom, sorry.
-/
import Derived.Test.YtkjimngpodhdbaaChecked
import GoSem.Claim
import GoSem.ClaimJoined
import GoSem.ClaimMapViews
import Derived.JoinedTies
import Derived.KernelRfl
namespace Go.Proofs.Ytkjimngpodhdbaa
/- THE CELL 'sum', in the pinned program and in every row, IS THE sha256 OF THE DUMP (.gsa) THAT YtkjimngpodhdbaaProg.lean LOADS. Nothing in Lean hashes anything: it is a label: what it is worth is what the hold of that sum in a sandbox is worth. -/
noncomputable def Try.pinned : Pinned := { name := "ytkjimngpodhdbaa", sum := "c15bf525d1380cc8f6f92681f54f8a4b7665ce09ce74c748b82815b688ad2b7d", checked := Try.checked }
namespace Rows
def none {H : Type} : Left H := { results := [], args := [] }

/-- 'laws.FnExactStoreValid': WHATEVER THE INPUT: true; the input reads as it did. -/
def fnExactStoreValidSpec : ChangeSpec := { name := "fnExactStoreValid", fn := fun _ => fun
  | [d] => { results := [.lit (.bool true)], args := [d] }
  | _ => none }
def fnExactStoreValidRow : OpenClaim := { program := "ytkjimngpodhdbaa", sum := "c15bf525d1380cc8f6f92681f54f8a4b7665ce09ce74c748b82815b688ad2b7d", func := "loop.example/snapshotfiles/laws.FnExactStoreValid", spec := "fnExactStoreValid", apart := false }
def FnExactStoreValidSaid : Prop := fnExactStoreValidRow.holds Try.pinned (OpenSpec.ofChange fnExactStoreValidSpec)

/-- ITS FALSE NEIGHBOUR: 'it returns false'. Refute it at one input. -/
def fnExactStoreValidWrong : ChangeSpec := { name := "fnExactStoreValid", fn := fun _ => fun
  | [d] => { results := [.lit (.bool false)], args := [d] }
  | _ => none }
def FnExactStoreValidWrongFalsely : Prop := fnExactStoreValidRow.holds Try.pinned (OpenSpec.ofChange fnExactStoreValidWrong)

/-- 'laws.FnStorePart': WHATEVER THE INPUT: true; the input reads as it did. -/
def fnStorePartSpec : ChangeSpec := { name := "fnStorePart", fn := fun _ => fun
  | [d1, d2] => { results := [.lit (.bool true)], args := [d1, d2] }
  | _ => none }
def fnStorePartRow : OpenClaim := { program := "ytkjimngpodhdbaa", sum := "c15bf525d1380cc8f6f92681f54f8a4b7665ce09ce74c748b82815b688ad2b7d", func := "loop.example/snapshotfiles/laws.FnStorePart", spec := "fnStorePart", apart := false }
def FnStorePartSaid : Prop := fnStorePartRow.holds Try.pinned (OpenSpec.ofChange fnStorePartSpec)

/-- ITS FALSE NEIGHBOUR: 'it returns false'. Refute it at one input. -/
def fnStorePartWrong : ChangeSpec := { name := "fnStorePart", fn := fun _ => fun
  | [d1, d2] => { results := [.lit (.bool false)], args := [d1, d2] }
  | _ => none }
def FnStorePartWrongFalsely : Prop := fnStorePartRow.holds Try.pinned (OpenSpec.ofChange fnStorePartWrong)

/-- 'laws.FnExactStoreGet': WHATEVER THE INPUT: true; the input reads as it did. -/
def fnExactStoreGetSpec : ChangeSpec := { name := "fnExactStoreGet", fn := fun _ => fun
  | [d1, d2] => { results := [.lit (.bool true)], args := [d1, d2] }
  | _ => none }
def fnExactStoreGetRow : OpenClaim := { program := "ytkjimngpodhdbaa", sum := "c15bf525d1380cc8f6f92681f54f8a4b7665ce09ce74c748b82815b688ad2b7d", func := "loop.example/snapshotfiles/laws.FnExactStoreGet", spec := "fnExactStoreGet", apart := false }
def FnExactStoreGetSaid : Prop := fnExactStoreGetRow.holds Try.pinned (OpenSpec.ofChange fnExactStoreGetSpec)

/-- ITS FALSE NEIGHBOUR: 'it returns false'. Refute it at one input. -/
def fnExactStoreGetWrong : ChangeSpec := { name := "fnExactStoreGet", fn := fun _ => fun
  | [d1, d2] => { results := [.lit (.bool false)], args := [d1, d2] }
  | _ => none }
def FnExactStoreGetWrongFalsely : Prop := fnExactStoreGetRow.holds Try.pinned (OpenSpec.ofChange fnExactStoreGetWrong)

/-- 'laws.FnExactFileLoad': WHATEVER THE INPUT: true; the input reads as it did. -/
def fnExactFileLoadSpec : ChangeSpec := { name := "fnExactFileLoad", fn := fun _ => fun
  | [d1, d2] => { results := [.lit (.bool true)], args := [d1, d2] }
  | _ => none }
def fnExactFileLoadRow : OpenClaim := { program := "ytkjimngpodhdbaa", sum := "c15bf525d1380cc8f6f92681f54f8a4b7665ce09ce74c748b82815b688ad2b7d", func := "loop.example/snapshotfiles/laws.FnExactFileLoad", spec := "fnExactFileLoad", apart := false }
def FnExactFileLoadSaid : Prop := fnExactFileLoadRow.holds Try.pinned (OpenSpec.ofChange fnExactFileLoadSpec)

/-- ITS FALSE NEIGHBOUR: 'it returns false'. Refute it at one input. -/
def fnExactFileLoadWrong : ChangeSpec := { name := "fnExactFileLoad", fn := fun _ => fun
  | [d1, d2] => { results := [.lit (.bool false)], args := [d1, d2] }
  | _ => none }
def FnExactFileLoadWrongFalsely : Prop := fnExactFileLoadRow.holds Try.pinned (OpenSpec.ofChange fnExactFileLoadWrong)

/-- 'laws.FnLoadPart': WHATEVER THE INPUT: true; the input reads as it did. -/
def fnLoadPartSpec : ChangeSpec := { name := "fnLoadPart", fn := fun _ => fun
  | [d1, d2] => { results := [.lit (.bool true)], args := [d1, d2] }
  | _ => none }
def fnLoadPartRow : OpenClaim := { program := "ytkjimngpodhdbaa", sum := "c15bf525d1380cc8f6f92681f54f8a4b7665ce09ce74c748b82815b688ad2b7d", func := "loop.example/snapshotfiles/laws.FnLoadPart", spec := "fnLoadPart", apart := false }
def FnLoadPartSaid : Prop := fnLoadPartRow.holds Try.pinned (OpenSpec.ofChange fnLoadPartSpec)

/-- ITS FALSE NEIGHBOUR: 'it returns false'. Refute it at one input. -/
def fnLoadPartWrong : ChangeSpec := { name := "fnLoadPart", fn := fun _ => fun
  | [d1, d2] => { results := [.lit (.bool false)], args := [d1, d2] }
  | _ => none }
def FnLoadPartWrongFalsely : Prop := fnLoadPartRow.holds Try.pinned (OpenSpec.ofChange fnLoadPartWrong)

/- THE SECOND FORM. 'bulk': how many values and letters a reading holds, each counted each time it is reached (what is shared counts as often as it is met; a slice's spare places count too). A statement '..UptoSaid' is the law's where the arguments, and the package variables that the reading takes, are together of bulk at most 1048576: NARROWER than '..Said'. Prove '..Said' where nothing that the law and all that it calls make is longer than what came in: it says more and counts as full. Else prove '..UptoSaid'. A law counts once. -/
mutual
def uptoBulk {H : Type} : DataW H → Nat
  | .lit (.string bytes) => bytes.length + 1
  | .lit _ => 1
  | .nil => 1
  | .ptr d => uptoBulk d + 1
  | .slice elems spare => uptoBulkAll elems + uptoBulkAll spare + 1
  | .agg parts => uptoBulkAll parts + 1
  | .iface _ d => uptoBulk d + 1
  | .map entries => uptoBulkEntries entries + 1
  | .held _ => 1
def uptoBulkAll {H : Type} : List (DataW H) → Nat
  | [] => 0
  | d :: r => uptoBulk d + uptoBulkAll r
def uptoBulkEntries {H : Type} : List (Lit × DataW H) → Nat
  | [] => 0
  | x :: r => uptoBulkEntry x + uptoBulkEntries r
def uptoBulkEntry {H : Type} : Lit × DataW H → Nat
  | (.string bytes, d) => bytes.length + uptoBulk d + 1
  | (_, d) => uptoBulk d + 1
 end
def uptoSmall : (H : Type) → List (DataW H) → Bool := fun _ ds => decide (uptoBulkAll ds ≤ 1048576)
def OpenSpec.upto (s : _root_.Go.ChangeSpec) : _root_.Go.OpenSpec := { _root_.Go.OpenSpec.ofChange s with cond := some uptoSmall }

/-- 'laws.FnExactStoreValid', WHERE WHAT IT READS IS OF BULK AT MOST 1048576: true; the input reads as it did. -/
def fnExactStoreValidUptoRow : OpenClaim := { program := "ytkjimngpodhdbaa", sum := "c15bf525d1380cc8f6f92681f54f8a4b7665ce09ce74c748b82815b688ad2b7d", func := "loop.example/snapshotfiles/laws.FnExactStoreValid", spec := "fnExactStoreValid", apart := false, narrowed := true }
def FnExactStoreValidUptoSaid : Prop := fnExactStoreValidUptoRow.holds Try.pinned (OpenSpec.upto fnExactStoreValidSpec)

/-- 'laws.FnStorePart', WHERE WHAT IT READS IS OF BULK AT MOST 1048576: true; the input reads as it did. -/
def fnStorePartUptoRow : OpenClaim := { program := "ytkjimngpodhdbaa", sum := "c15bf525d1380cc8f6f92681f54f8a4b7665ce09ce74c748b82815b688ad2b7d", func := "loop.example/snapshotfiles/laws.FnStorePart", spec := "fnStorePart", apart := false, narrowed := true }
def FnStorePartUptoSaid : Prop := fnStorePartUptoRow.holds Try.pinned (OpenSpec.upto fnStorePartSpec)

/-- 'laws.FnExactStoreGet', WHERE WHAT IT READS IS OF BULK AT MOST 1048576: true; the input reads as it did. -/
def fnExactStoreGetUptoRow : OpenClaim := { program := "ytkjimngpodhdbaa", sum := "c15bf525d1380cc8f6f92681f54f8a4b7665ce09ce74c748b82815b688ad2b7d", func := "loop.example/snapshotfiles/laws.FnExactStoreGet", spec := "fnExactStoreGet", apart := false, narrowed := true }
def FnExactStoreGetUptoSaid : Prop := fnExactStoreGetUptoRow.holds Try.pinned (OpenSpec.upto fnExactStoreGetSpec)

/-- 'laws.FnExactFileLoad', WHERE WHAT IT READS IS OF BULK AT MOST 1048576: true; the input reads as it did. -/
def fnExactFileLoadUptoRow : OpenClaim := { program := "ytkjimngpodhdbaa", sum := "c15bf525d1380cc8f6f92681f54f8a4b7665ce09ce74c748b82815b688ad2b7d", func := "loop.example/snapshotfiles/laws.FnExactFileLoad", spec := "fnExactFileLoad", apart := false, narrowed := true }
def FnExactFileLoadUptoSaid : Prop := fnExactFileLoadUptoRow.holds Try.pinned (OpenSpec.upto fnExactFileLoadSpec)

/-- 'laws.FnLoadPart', WHERE WHAT IT READS IS OF BULK AT MOST 1048576: true; the input reads as it did. -/
def fnLoadPartUptoRow : OpenClaim := { program := "ytkjimngpodhdbaa", sum := "c15bf525d1380cc8f6f92681f54f8a4b7665ce09ce74c748b82815b688ad2b7d", func := "loop.example/snapshotfiles/laws.FnLoadPart", spec := "fnLoadPart", apart := false, narrowed := true }
def FnLoadPartUptoSaid : Prop := fnLoadPartUptoRow.holds Try.pinned (OpenSpec.upto fnLoadPartSpec)

end Rows
end Go.Proofs.Ytkjimngpodhdbaa
