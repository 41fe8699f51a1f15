/- The == of two holds. -/
import Derived.Test.YtcojgoibelgleaaHoldValid
import Derived.Laws.StructEq
namespace Go.Proofs.Ytcojgoibelgleaa
open Go.RowKit

theorem guardO : Try.prog.eqGuardType Try.prog.depth 36 = false := by kernel_rfl

theorem run_eqO (x y x2 y2 : ByteArray) : ∃ b, ∀ w : World, (binOp .eql 36 (.agg #[.string x, .string y]) (.agg #[.string x2, .string y2])).run Try.prog w = .ok (.bool b) w := by
  have hS : Try.prog.underlying 36 = some (.struct (Try.prog.fieldsOf 36)) := by kernel_rfl
  have hp : Try.prog.stoodInHeld 36 = false := by kernel_rfl
  have u3 := Try.underlying9
  refine ⟨(x.toList == x2.toList) && (y.toList == y2.toList), fun w => ?_⟩
  rw [run_eql_struct, show (10000 : Nat) = 9999 + 1 from rfl, run_equalIn_agg w 9999 36 _ _ hS hp]
  simp only [Program.fieldsOf, Try.underlying36]
  go_simp
  cases h1 : (x.toList == x2.toList) <;> cases h2 : (y.toList == y2.toList) <;> simp_all

end Go.Proofs.Ytcojgoibelgleaa
