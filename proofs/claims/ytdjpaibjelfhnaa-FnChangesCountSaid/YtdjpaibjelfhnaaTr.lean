/- What a law answers. -/
import Derived.Test.YtdjpaibjelfhnaaBase
namespace Go.Proofs.Ytdjpaibjelfhnaa
open Go.RowKit

/-- True is handed back; all that was there is as it was. -/
def Tr (w : World) (e : Ending) (w' : World) : Prop := e = .returned (.bool true) ∧ Below w.heap.size w w'

end Go.Proofs.Ytdjpaibjelfhnaa
