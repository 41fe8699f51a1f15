/- Contracts of the reference's l31Has and HoldPut. -/
import Derived.Test.YtcojgoibelgleaaHoldValid
import Derived.Test.YtcojgoibelgleaaEqO
import Derived.BigQuiet
import Derived.Deep.QuietTactic
import Derived.Deep.RegionHeld3
import Derived.Outline
namespace Go.Proofs.Ytcojgoibelgleaa
open Go.RowKit
set_option linter.unusedVariables false

set_option maxHeartbeats 400000 in
theorem l31Has_any (a : Option Addr) (n c : Nat) (xs : List (ByteArray × ByteArray)) (x y : ByteArray) (w : World) (hr : RdR eltO w a n xs) (hn : n ≤ 4611686018427387904) :
    Calls Try.prog 29 #[.slice a n c, .agg #[.string x, .string y]] w fun e w' => ∃ b, e = .returned (.bool b) ∧ Below w.heap.size w w' := by
  go_enter Try.func29, Try.ntmps29
  go_wp2
  have h0 : Below w.heap.size w (w.alloc (.cells #[.string x, .string y] 36)) := (Below.refl _ _).alloc (Nat.le_refl _) _
  have hx0 : (w.alloc (.cells #[.string x, .string y] 36)).cell? ⟨w.heap.size, 0, none⟩ = some (.string x) := by rw [cell_of_row _ w.heap.size _ _ _ (0, 0) (heap_alloc_new w _)]; rfl
  have hy0 : (w.alloc (.cells #[.string x, .string y] 36)).cell? ⟨w.heap.size, 1, none⟩ = some (.string y) := by rw [cell_of_row _ w.heap.size _ _ _ (0, 0) (heap_alloc_new w _)]; rfl
  go_loopw [5] (fun i wr => ∃ k : Nat, k ≤ n ∧ i = .int .i64 k ∧ wr.cell? ⟨w.heap.size, 0, none⟩ = some (.string x) ∧ wr.cell? ⟨w.heap.size, 1, none⟩ = some (.string y) ∧ Below w.heap.size w wr)
    (fun i _ => n - (intOf i).toNat)
  case atStart => exact ⟨0, Nat.zero_le _, rfl, hx0, hy0, h0⟩
  case round =>
    clear h0 hx0 hy0
    obtain ⟨k, hk, rfl, hx0, hy0, hb⟩ := hrel
    by_cases hlt : k < n
    · obtain ⟨b, off, z, rfl, hbl, hz, c0, c1⟩ := atO (hr.below hb) hlt
      clear hz
      have hk0 : (0 : Int) ≤ (k : Int) := by omega
      have hk1 : (k : Int) < (n : Int) := by omega
      go_wp2_with fail
      obtain ⟨v, hv⟩ := run_eqO z.1 z.2 x y
      have hG := guardO
      go_quiet (fail)
      have hx1 : (wr.drewN nq).cell? ⟨w.heap.size, 0, none⟩ = some (.string x) := hx0
      have hy1 : (wr.drewN nq).cell? ⟨w.heap.size, 1, none⟩ = some (.string y) := hy0
      have hbd : Below w.heap.size w (wr.drewN nq) := ⟨hb.os, hb.tape, hb.output, hb.size, hb.block⟩
      clear hv c0 c1 hx0 hy0
      generalize wr.drewN nq = W at hx1 hy1 hbd ⊢
      cases v with
      | true =>
        go_wp2
        go_ret
        exact ⟨_, rfl, hbd⟩
      | false =>
        go_wp2
        go_roundw
        case rel => exact ⟨k + 1, by omega, by go_num, hx1, hy1, hbd⟩
        case measure => simp [intOf]; omega
    · obtain rfl : k = n := by omega
      go_wp2
      go_ret
      exact ⟨_, rfl, hb⟩

end Go.Proofs.Ytcojgoibelgleaa
