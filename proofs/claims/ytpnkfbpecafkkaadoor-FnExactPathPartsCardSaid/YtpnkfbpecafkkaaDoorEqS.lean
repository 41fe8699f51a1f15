/- Contract: eqStringS: whether two slices of strings are equal. -/
import Derived.Test.YtpnkfbpecafkkaaDoorBaseS
import Derived.BigQuiet
import Derived.Deep.QuietTactic
import Derived.Outline
namespace Go.Proofs.YtpnkfbpecafkkaaDoor
open Go.RowKit
set_option linter.unusedVariables false

theorem take_succ_eqS {xs ys : List ByteArray} {k : Nat} (h : xs.take k = ys.take k) (hx : k < xs.length) (hy : k < ys.length) (e : xs.getD k ByteArray.empty = ys.getD k ByteArray.empty) : xs.take (k + 1) = ys.take (k + 1) := by
  rw [List.take_succ_eq_append_getElem hx, List.take_succ_eq_append_getElem hy, h]
  simp [List.getD, hx, hy] at e
  rw [e]

set_option maxHeartbeats 400000 in
theorem eqStringS_self (a a' : Option Addr) (n c c' : Nat) (xs : List ByteArray) (w : World) (hr : RdS w a n xs) (hr' : RdS w a' n xs) (hn : n ≤ 4611686018427387904) :
    Calls Tryd.prog 16 #[.slice a n c, .slice a' n c'] w fun e w' => e = .returned (.bool true) ∧ Below w.heap.size w w' := by
  go_enter Tryd.func16, Tryd.ntmps16
  go_wp2
  go_loopw [5] (fun i wr => ∃ k : Nat, k ≤ n ∧ i = .int .i64 k ∧ ∃ m, wr = w.drewN m)
    (fun i _ => n - (intOf i).toNat)
  case atStart => exact ⟨0, Nat.zero_le _, rfl, 0, rfl⟩
  case round =>
    obtain ⟨k, hk, rfl, m, rfl⟩ := hrel
    by_cases hlt : k < n
    · obtain ⟨b, off, rfl, hl1, x, hx, hcell⟩ := hr.at_ hlt
      obtain ⟨b', off', rfl, hl2, y, hy, hcell'⟩ := hr'.at_ hlt
      obtain rfl : y = x := hy.symm.trans hx
      clear hx hy
      have hk0 : (0 : Int) ≤ (k : Int) := by omega
      have hk1 : (k : Int) < (n : Int) := by omega
      have ht : (y.toList == y.toList) = true := by simp
      have ht2 : (y.toList != y.toList) = false := by simp
      go_wp2
      go_quiet (fail)
      go_wp2
      go_roundw
      case rel => exact ⟨k + 1, by omega, by go_num, _, rfl⟩
      case measure => simp [intOf]; omega
    · obtain rfl : k = n := by omega
      go_wp2
      go_ret
      exact ⟨rfl, below_drewN (Below.refl _ _) _⟩

end Go.Proofs.YtpnkfbpecafkkaaDoor
