/- Walk of the exact law of the constants. -/
import Derived.Test.YtbegmliglabpfaaBase
namespace Go.Proofs.Ytbegmliglabpfaa
open Go.RowKit

/-- The law's end: true is returned, all that was there is as it was. -/
def Tr (w : World) (e : Ending) (w' : World) : Prop := e = .returned (.bool true) ∧ Below w.heap.size w w'

theorem FnExactConstants_walk (w : World) : Calls Try.prog 3 #[] w (Tr w) := by
  go_enter Try.func3, Try.ntmps3
  go_wp2
  go_ret
  exact ⟨rfl, Below.refl _ _⟩

end Go.Proofs.Ytbegmliglabpfaa
