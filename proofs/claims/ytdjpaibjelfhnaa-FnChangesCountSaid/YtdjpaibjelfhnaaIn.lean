/- Contract of l6In. -/
import Derived.Test.YtdjpaibjelfhnaaBase
namespace Go.Proofs.Ytdjpaibjelfhnaa
open Go.RowKit

/-- v is handed back; all that was there is as it was. -/
def RetB (w : World) (v : Value) (e : Ending) (w' : World) : Prop := e = .returned v ∧ Below w.heap.size w w'

def inB (n lo hi : Int) : Bool := decide (lo ≤ n) && decide (n ≤ hi)

theorem l6In_any (n lo hi : Int) (w : World) :
    Calls Try.prog 32 #[.int .i64 n, .int .i64 lo, .int .i64 hi] w fun e w' => e = .returned (.bool (inB n lo hi)) ∧ w = w' := by
  by_cases h1 : lo ≤ n
  · by_cases h2 : n ≤ hi
    · have hb : inB n lo hi = true := by simp [inB, h1, h2]
      rw [hb]; clear hb
      go_enter Try.func32, Try.ntmps32
      go_wp2
      go_ret
      exact ⟨rfl, rfl⟩
    · have hb : inB n lo hi = false := by simp [inB, h2]
      rw [hb]; clear hb
      go_enter Try.func32, Try.ntmps32
      go_wp2
      go_ret
      exact ⟨rfl, rfl⟩
  · have hb : inB n lo hi = false := by simp [inB, h1]
    rw [hb]; clear hb
    go_enter Try.func32, Try.ntmps32
    go_wp2
    go_ret
    exact ⟨rfl, rfl⟩

end Go.Proofs.Ytdjpaibjelfhnaa
