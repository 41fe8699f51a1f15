/- Contracts of the draws of blocks and files: they hand back some ints in new memory. -/
import Derived.Test.YtdjpaibjelfhnaaCommon
import Derived.Test.YtdjpaibjelfhnaaDrawn
import Derived.Test.YtdjpaibjelfhnaaApp
import Derived.Maps.AppendAt
namespace Go.Proofs.Ytdjpaibjelfhnaa
open Go.RowKit

/-- A list of ints was drawn, of at most m numbers. -/
def DrewI (w : World) (B g : Nat) (p : Int) (m : Nat) (e : Ending) (w' : World) : Prop :=
  ∃ zs a c, e = .returned (.slice a zs.length c) ∧ zs.length ≤ m ∧ OwnI w' w.heap.size a c zs ∧ Drawn w w' B g (p + 1000)

theorem news8 (w : World) : ∀ j u, (([1, 2, 3, 4, 5, 6, 7, 8] : List Int).map (Value.int .i64))[j]? = some u →
    (w.alloc (.cells #[.int .i64 1, .int .i64 2, .int .i64 3, .int .i64 4, .int .i64 5, .int .i64 6, .int .i64 7, .int .i64 8] 3)).cell? ((⟨w.heap.size, 0, none⟩ : Addr).add j) = some u :=
  fun j u hj => cells_new w (([1, 2, 3, 4, 5, 6, 7, 8] : List Int).map (Value.int .i64)) 3 j u hj
theorem wf8 : WfI [1, 2, 3, 4, 5, 6, 7, 8] := by
  intro z hz
  simp at hz
  omega

end Go.Proofs.Ytdjpaibjelfhnaa
