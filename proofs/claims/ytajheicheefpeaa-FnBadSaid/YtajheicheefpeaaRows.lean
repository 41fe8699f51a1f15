/-
  No cell of these rows narrows 'for every input' (looked for: loops, veiled, ifaces, maps, wideKeys, modest, calm, conditions, laid).
  DERIVED. THE GIVEN ROWS OF THIS SEAT. 5 by the template 'for every input the law returns true; each argument reads behind the call as it read before'; 0 by the template 'total and deterministic' (their statements: YtajheicheefpeaaTotals.lean).
  GIVEN WITH THE SEED: the statements are not yours to turn. If you find one false, say at which input.
  Laid BY PROGRAM, IN A SANDBOX (cutbox-rows.mjs): the forced cells as the released guide's own fill.sh prints them over the translation 15039d64eaca6ce8… (all of the seat's roots in one cut). By AI agents, Wed Nov 11 2026. No macro, syntax, notation, axiom, sorry.
-/
import Derived.Test.YtajheicheefpeaaChecked
import GoSem.Claim
import GoSem.ClaimJoined
import GoSem.ClaimMapViews
import Derived.JoinedTies
import Derived.KernelRfl
namespace Go.Proofs.Ytajheicheefpeaa
/- THE CELL 'sum', in the pinned program and in every row, IS THE sha256 OF THE DUMP (.gsa) THAT YtajheicheefpeaaProg.lean LOADS. Nothing in Lean hashes anything: it is a label: what it is worth is what the hold of that sum in a sandbox is worth. -/
noncomputable def Try.pinned : Pinned := { name := "ytajheicheefpeaa", sum := "15039d64eaca6ce8a9107fe2fbb25d6cca0a68c0d6ee4036e62026a694cbaff5", checked := Try.checked }
namespace Rows
def none {H : Type} : Left H := { results := [], args := [] }

/-- 'laws.FnExactChecksOf': WHATEVER THE INPUT: true; the input reads as it did. -/
def fnExactChecksOfSpec : ChangeSpec := { name := "fnExactChecksOf", fn := fun _ => fun
  | [d] => { results := [.lit (.bool true)], args := [d] }
  | _ => none }
def fnExactChecksOfRow : OpenClaim := { program := "ytajheicheefpeaa", sum := "15039d64eaca6ce8a9107fe2fbb25d6cca0a68c0d6ee4036e62026a694cbaff5", func := "loop.example/snapshotfiles/laws.FnExactChecksOf", spec := "fnExactChecksOf", apart := false }
def FnExactChecksOfSaid : Prop := fnExactChecksOfRow.holds Try.pinned (OpenSpec.ofChange fnExactChecksOfSpec)

/-- ITS FALSE NEIGHBOUR: 'it returns false'. Refute it at one input. -/
def fnExactChecksOfWrong : ChangeSpec := { name := "fnExactChecksOf", fn := fun _ => fun
  | [d] => { results := [.lit (.bool false)], args := [d] }
  | _ => none }
def FnExactChecksOfWrongFalsely : Prop := fnExactChecksOfRow.holds Try.pinned (OpenSpec.ofChange fnExactChecksOfWrong)

/-- 'laws.FnExactChecksBad': WHATEVER THE INPUT: true; the input reads as it did. -/
def fnExactChecksBadSpec : ChangeSpec := { name := "fnExactChecksBad", fn := fun _ => fun
  | [d1, d2] => { results := [.lit (.bool true)], args := [d1, d2] }
  | _ => none }
def fnExactChecksBadRow : OpenClaim := { program := "ytajheicheefpeaa", sum := "15039d64eaca6ce8a9107fe2fbb25d6cca0a68c0d6ee4036e62026a694cbaff5", func := "loop.example/snapshotfiles/laws.FnExactChecksBad", spec := "fnExactChecksBad", inPlace := ["(*sync.WaitGroup).Add", "internal/race.ReleaseMerge", "internal/race.Disable", "internal/race.Enable", "internal/synctest.IsInBubble", "internal/synctest.Associate[sync.WaitGroup]", "sync.fatal", "sync/atomic.OrUint64", "sync/atomic.AddUint64", "internal/race.Read", "sync/atomic.LoadUint64", "sync/atomic.StoreUint64", "internal/synctest.Disassociate[sync.WaitGroup]", "sync.runtime_Semrelease", "(*sync.WaitGroup).Done", "(*sync.WaitGroup).Wait", "internal/race.Acquire", "internal/synctest.IsAssociated[sync.WaitGroup]", "sync/atomic.CompareAndSwapUint64", "internal/race.Write", "sync.runtime_SemacquireWaitGroup"], unfollowed := true, recurses := true, leaving := true, apart := false }
def FnExactChecksBadSaid : Prop := fnExactChecksBadRow.holds Try.pinned (OpenSpec.ofChange fnExactChecksBadSpec)

/-- ITS FALSE NEIGHBOUR: 'it returns false'. Refute it at one input. -/
def fnExactChecksBadWrong : ChangeSpec := { name := "fnExactChecksBad", fn := fun _ => fun
  | [d1, d2] => { results := [.lit (.bool false)], args := [d1, d2] }
  | _ => none }
def FnExactChecksBadWrongFalsely : Prop := fnExactChecksBadRow.holds Try.pinned (OpenSpec.ofChange fnExactChecksBadWrong)

/-- 'laws.FnChecksDamage': WHATEVER THE INPUT: true; the input reads as it did. -/
def fnChecksDamageSpec : ChangeSpec := { name := "fnChecksDamage", fn := fun _ => fun
  | [d1, d2] => { results := [.lit (.bool true)], args := [d1, d2] }
  | _ => none }
def fnChecksDamageRow : OpenClaim := { program := "ytajheicheefpeaa", sum := "15039d64eaca6ce8a9107fe2fbb25d6cca0a68c0d6ee4036e62026a694cbaff5", func := "loop.example/snapshotfiles/laws.FnChecksDamage", spec := "fnChecksDamage", inPlace := ["(*sync.WaitGroup).Add", "internal/race.ReleaseMerge", "internal/race.Disable", "internal/race.Enable", "internal/synctest.IsInBubble", "internal/synctest.Associate[sync.WaitGroup]", "sync.fatal", "sync/atomic.OrUint64", "sync/atomic.AddUint64", "internal/race.Read", "sync/atomic.LoadUint64", "sync/atomic.StoreUint64", "internal/synctest.Disassociate[sync.WaitGroup]", "sync.runtime_Semrelease", "(*sync.WaitGroup).Done", "(*sync.WaitGroup).Wait", "internal/race.Acquire", "internal/synctest.IsAssociated[sync.WaitGroup]", "sync/atomic.CompareAndSwapUint64", "internal/race.Write", "sync.runtime_SemacquireWaitGroup"], unfollowed := true, recurses := true, leaving := true, apart := false }
def FnChecksDamageSaid : Prop := fnChecksDamageRow.holds Try.pinned (OpenSpec.ofChange fnChecksDamageSpec)

/-- ITS FALSE NEIGHBOUR: 'it returns false'. Refute it at one input. -/
def fnChecksDamageWrong : ChangeSpec := { name := "fnChecksDamage", fn := fun _ => fun
  | [d1, d2] => { results := [.lit (.bool false)], args := [d1, d2] }
  | _ => none }
def FnChecksDamageWrongFalsely : Prop := fnChecksDamageRow.holds Try.pinned (OpenSpec.ofChange fnChecksDamageWrong)

/-- 'laws.FnBad': WHATEVER THE INPUT: true; the input reads as it did. -/
def fnBadSpec : ChangeSpec := { name := "fnBad", fn := fun _ => fun
  | [d] => { results := [.lit (.bool true)], args := [d] }
  | _ => none }
def fnBadRow : OpenClaim := { program := "ytajheicheefpeaa", sum := "15039d64eaca6ce8a9107fe2fbb25d6cca0a68c0d6ee4036e62026a694cbaff5", func := "loop.example/snapshotfiles/laws.FnBad", spec := "fnBad", inPlace := ["(*sync.WaitGroup).Add", "internal/race.ReleaseMerge", "internal/race.Disable", "internal/race.Enable", "internal/synctest.IsInBubble", "internal/synctest.Associate[sync.WaitGroup]", "sync.fatal", "sync/atomic.OrUint64", "sync/atomic.AddUint64", "internal/race.Read", "sync/atomic.LoadUint64", "sync/atomic.StoreUint64", "internal/synctest.Disassociate[sync.WaitGroup]", "sync.runtime_Semrelease", "(*sync.WaitGroup).Done", "(*sync.WaitGroup).Wait", "internal/race.Acquire", "internal/synctest.IsAssociated[sync.WaitGroup]", "sync/atomic.CompareAndSwapUint64", "internal/race.Write", "sync.runtime_SemacquireWaitGroup"], unfollowed := true, recurses := true, leaving := true, apart := false }
def FnBadSaid : Prop := fnBadRow.holds Try.pinned (OpenSpec.ofChange fnBadSpec)

/-- ITS FALSE NEIGHBOUR: 'it returns false'. Refute it at one input. -/
def fnBadWrong : ChangeSpec := { name := "fnBad", fn := fun _ => fun
  | [d] => { results := [.lit (.bool false)], args := [d] }
  | _ => none }
def FnBadWrongFalsely : Prop := fnBadRow.holds Try.pinned (OpenSpec.ofChange fnBadWrong)

/-- 'laws.FnChecks': WHATEVER THE INPUT: true; the input reads as it did. -/
def fnChecksSpec : ChangeSpec := { name := "fnChecks", fn := fun _ => fun
  | [d] => { results := [.lit (.bool true)], args := [d] }
  | _ => none }
def fnChecksRow : OpenClaim := { program := "ytajheicheefpeaa", sum := "15039d64eaca6ce8a9107fe2fbb25d6cca0a68c0d6ee4036e62026a694cbaff5", func := "loop.example/snapshotfiles/laws.FnChecks", spec := "fnChecks", inPlace := ["(*sync.WaitGroup).Add", "internal/race.ReleaseMerge", "internal/race.Disable", "internal/race.Enable", "internal/synctest.IsInBubble", "internal/synctest.Associate[sync.WaitGroup]", "sync.fatal", "sync/atomic.OrUint64", "sync/atomic.AddUint64", "internal/race.Read", "sync/atomic.LoadUint64", "sync/atomic.StoreUint64", "internal/synctest.Disassociate[sync.WaitGroup]", "sync.runtime_Semrelease", "(*sync.WaitGroup).Done", "(*sync.WaitGroup).Wait", "internal/race.Acquire", "internal/synctest.IsAssociated[sync.WaitGroup]", "sync/atomic.CompareAndSwapUint64", "internal/race.Write", "sync.runtime_SemacquireWaitGroup"], unfollowed := true, recurses := true, leaving := true, apart := false }
def FnChecksSaid : Prop := fnChecksRow.holds Try.pinned (OpenSpec.ofChange fnChecksSpec)

/-- ITS FALSE NEIGHBOUR: 'it returns false'. Refute it at one input. -/
def fnChecksWrong : ChangeSpec := { name := "fnChecks", fn := fun _ => fun
  | [d] => { results := [.lit (.bool false)], args := [d] }
  | _ => none }
def FnChecksWrongFalsely : Prop := fnChecksRow.holds Try.pinned (OpenSpec.ofChange fnChecksWrong)

/- THE SECOND FORM. 'bulk': how many values and letters a reading holds, each counted each time it is reached (what is shared counts as often as it is met; a slice's spare places count too). A statement '..UptoSaid' is the law's where the arguments, and the package variables that the reading takes, are together of bulk at most 1048576: NARROWER than '..Said'. Prove '..Said' where nothing that the law and all that it calls make is longer than what came in: it says more and counts as full. Else prove '..UptoSaid'. A law counts once. -/
mutual
def uptoBulk {H : Type} : DataW H → Nat
  | .lit (.string bytes) => bytes.length + 1
  | .lit _ => 1
  | .nil => 1
  | .ptr d => uptoBulk d + 1
  | .slice elems spare => uptoBulkAll elems + uptoBulkAll spare + 1
  | .agg parts => uptoBulkAll parts + 1
  | .iface _ d => uptoBulk d + 1
  | .map entries => uptoBulkEntries entries + 1
  | .held _ => 1
def uptoBulkAll {H : Type} : List (DataW H) → Nat
  | [] => 0
  | d :: r => uptoBulk d + uptoBulkAll r
def uptoBulkEntries {H : Type} : List (Lit × DataW H) → Nat
  | [] => 0
  | x :: r => uptoBulkEntry x + uptoBulkEntries r
def uptoBulkEntry {H : Type} : Lit × DataW H → Nat
  | (.string bytes, d) => bytes.length + uptoBulk d + 1
  | (_, d) => uptoBulk d + 1
 end
def uptoSmall : (H : Type) → List (DataW H) → Bool := fun _ ds => decide (uptoBulkAll ds ≤ 1048576)
def OpenSpec.upto (s : _root_.Go.ChangeSpec) : _root_.Go.OpenSpec := { _root_.Go.OpenSpec.ofChange s with cond := some uptoSmall }

/-- 'laws.FnExactChecksOf', WHERE WHAT IT READS IS OF BULK AT MOST 1048576: true; the input reads as it did. -/
def fnExactChecksOfUptoRow : OpenClaim := { program := "ytajheicheefpeaa", sum := "15039d64eaca6ce8a9107fe2fbb25d6cca0a68c0d6ee4036e62026a694cbaff5", func := "loop.example/snapshotfiles/laws.FnExactChecksOf", spec := "fnExactChecksOf", apart := false, narrowed := true }
def FnExactChecksOfUptoSaid : Prop := fnExactChecksOfUptoRow.holds Try.pinned (OpenSpec.upto fnExactChecksOfSpec)

/-- 'laws.FnExactChecksBad', WHERE WHAT IT READS IS OF BULK AT MOST 1048576: true; the input reads as it did. -/
def fnExactChecksBadUptoRow : OpenClaim := { program := "ytajheicheefpeaa", sum := "15039d64eaca6ce8a9107fe2fbb25d6cca0a68c0d6ee4036e62026a694cbaff5", func := "loop.example/snapshotfiles/laws.FnExactChecksBad", spec := "fnExactChecksBad", inPlace := ["(*sync.WaitGroup).Add", "internal/race.ReleaseMerge", "internal/race.Disable", "internal/race.Enable", "internal/synctest.IsInBubble", "internal/synctest.Associate[sync.WaitGroup]", "sync.fatal", "sync/atomic.OrUint64", "sync/atomic.AddUint64", "internal/race.Read", "sync/atomic.LoadUint64", "sync/atomic.StoreUint64", "internal/synctest.Disassociate[sync.WaitGroup]", "sync.runtime_Semrelease", "(*sync.WaitGroup).Done", "(*sync.WaitGroup).Wait", "internal/race.Acquire", "internal/synctest.IsAssociated[sync.WaitGroup]", "sync/atomic.CompareAndSwapUint64", "internal/race.Write", "sync.runtime_SemacquireWaitGroup"], unfollowed := true, recurses := true, leaving := true, apart := false, narrowed := true }
def FnExactChecksBadUptoSaid : Prop := fnExactChecksBadUptoRow.holds Try.pinned (OpenSpec.upto fnExactChecksBadSpec)

/-- 'laws.FnChecksDamage', WHERE WHAT IT READS IS OF BULK AT MOST 1048576: true; the input reads as it did. -/
def fnChecksDamageUptoRow : OpenClaim := { program := "ytajheicheefpeaa", sum := "15039d64eaca6ce8a9107fe2fbb25d6cca0a68c0d6ee4036e62026a694cbaff5", func := "loop.example/snapshotfiles/laws.FnChecksDamage", spec := "fnChecksDamage", inPlace := ["(*sync.WaitGroup).Add", "internal/race.ReleaseMerge", "internal/race.Disable", "internal/race.Enable", "internal/synctest.IsInBubble", "internal/synctest.Associate[sync.WaitGroup]", "sync.fatal", "sync/atomic.OrUint64", "sync/atomic.AddUint64", "internal/race.Read", "sync/atomic.LoadUint64", "sync/atomic.StoreUint64", "internal/synctest.Disassociate[sync.WaitGroup]", "sync.runtime_Semrelease", "(*sync.WaitGroup).Done", "(*sync.WaitGroup).Wait", "internal/race.Acquire", "internal/synctest.IsAssociated[sync.WaitGroup]", "sync/atomic.CompareAndSwapUint64", "internal/race.Write", "sync.runtime_SemacquireWaitGroup"], unfollowed := true, recurses := true, leaving := true, apart := false, narrowed := true }
def FnChecksDamageUptoSaid : Prop := fnChecksDamageUptoRow.holds Try.pinned (OpenSpec.upto fnChecksDamageSpec)

/-- 'laws.FnBad', WHERE WHAT IT READS IS OF BULK AT MOST 1048576: true; the input reads as it did. -/
def fnBadUptoRow : OpenClaim := { program := "ytajheicheefpeaa", sum := "15039d64eaca6ce8a9107fe2fbb25d6cca0a68c0d6ee4036e62026a694cbaff5", func := "loop.example/snapshotfiles/laws.FnBad", spec := "fnBad", inPlace := ["(*sync.WaitGroup).Add", "internal/race.ReleaseMerge", "internal/race.Disable", "internal/race.Enable", "internal/synctest.IsInBubble", "internal/synctest.Associate[sync.WaitGroup]", "sync.fatal", "sync/atomic.OrUint64", "sync/atomic.AddUint64", "internal/race.Read", "sync/atomic.LoadUint64", "sync/atomic.StoreUint64", "internal/synctest.Disassociate[sync.WaitGroup]", "sync.runtime_Semrelease", "(*sync.WaitGroup).Done", "(*sync.WaitGroup).Wait", "internal/race.Acquire", "internal/synctest.IsAssociated[sync.WaitGroup]", "sync/atomic.CompareAndSwapUint64", "internal/race.Write", "sync.runtime_SemacquireWaitGroup"], unfollowed := true, recurses := true, leaving := true, apart := false, narrowed := true }
def FnBadUptoSaid : Prop := fnBadUptoRow.holds Try.pinned (OpenSpec.upto fnBadSpec)

/-- 'laws.FnChecks', WHERE WHAT IT READS IS OF BULK AT MOST 1048576: true; the input reads as it did. -/
def fnChecksUptoRow : OpenClaim := { program := "ytajheicheefpeaa", sum := "15039d64eaca6ce8a9107fe2fbb25d6cca0a68c0d6ee4036e62026a694cbaff5", func := "loop.example/snapshotfiles/laws.FnChecks", spec := "fnChecks", inPlace := ["(*sync.WaitGroup).Add", "internal/race.ReleaseMerge", "internal/race.Disable", "internal/race.Enable", "internal/synctest.IsInBubble", "internal/synctest.Associate[sync.WaitGroup]", "sync.fatal", "sync/atomic.OrUint64", "sync/atomic.AddUint64", "internal/race.Read", "sync/atomic.LoadUint64", "sync/atomic.StoreUint64", "internal/synctest.Disassociate[sync.WaitGroup]", "sync.runtime_Semrelease", "(*sync.WaitGroup).Done", "(*sync.WaitGroup).Wait", "internal/race.Acquire", "internal/synctest.IsAssociated[sync.WaitGroup]", "sync/atomic.CompareAndSwapUint64", "internal/race.Write", "sync.runtime_SemacquireWaitGroup"], unfollowed := true, recurses := true, leaving := true, apart := false, narrowed := true }
def FnChecksUptoSaid : Prop := fnChecksUptoRow.holds Try.pinned (OpenSpec.upto fnChecksSpec)

end Rows
end Go.Proofs.Ytajheicheefpeaa
