/- Contracts: SpaceFree and SpaceMost on both sides. -/
import Derived.Test.YthcjelijpeddbaaValidX
import Derived.Test.YthcjelijpeddbaaPlainNum
import Derived.Outline
namespace Go.Proofs.Ythcjelijpeddbaa
open Go.RowKit
set_option linter.unusedVariables false

set_option maxHeartbeats 1000000 in
theorem implSpaceFree_any (a : Option Addr) (n c : Nat) (xs : List (Int × Int)) (w : World) (hr : RdX w a n xs) (hwf : WfX xs) (hn : n ≤ 4611686018427387904) :
    Calls Try.prog 23 #[.slice a n c] w (RetB w (.int .i64 (freeV xs))) := by
  have hl := Lib.hid hr.1
  go_enter Try.func23, Try.ntmps23
  go_wp2_with fail
  with_reducible refine (implSpaceValid_any a n c xs _ hr hwf hn).mono ?_
  rintro e w2 ⟨rfl, hb2⟩
  by_cases hv : spaceV xs = true
  · rw [hv]
    have HV := Lib.hid hv
    clear hv
    go_wp2
    go_loopw [3, 11] (fun s i wr => ∃ k : Nat, k ≤ n ∧ i = .int .i64 k ∧ (∃ t : Int, Hid (t = sumX (xs.take k)) ∧ 0 ≤ t ∧ t ≤ 101 ∧ s = .int .i64 t) ∧ Below w.heap.size w wr)
      (fun _ i _ => n - (intOf i).toNat)
    case atStart => exact ⟨0, Nat.zero_le _, rfl, ⟨0, Lib.hid (by simp [sumX]), by omega, by omega, rfl⟩, hb2⟩
    case round =>
      obtain ⟨k, hk, rfl, ⟨t, ht, t0, t1, rfl⟩, hbr⟩ := hrel
      by_cases hlt : k < n
      · obtain ⟨b, off, rfl, hblt, f, m, hfm, cf, cm, ⟨wf0, wf1⟩, wm0, wm1⟩ := (hr.below hbr).at_ hwf hlt
        have hm := valid_at HV.out (k := k) (by have := hl.out; omega)
        rw [hfm, validX_iff] at hm
        simp only at hm
        obtain ⟨v0, v1, v2, v3⟩ := hm
        have hnx : Hid (t + m = sumX (xs.take (k + 1))) := Lib.hid (by rw [sumX_take (by have := hl.out; omega), ht.out, hfm])
        have hbd := sumX_bound (validFrom_take (k + 1) HV.out) (by omega)
        rw [← hnx.out] at hbd
        obtain ⟨d0, d1⟩ := hbd
        have HFM := Lib.hid hfm
        have hbx := hbr.alloc hbr.size (.cells #[.int .i64 f, .int .i64 m] 32)
        clear hfm
        go_wp2
        go_roundw
        case rel => exact ⟨k + 1, by omega, by go_num, ⟨t + m, hnx, by omega, by omega, by go_num⟩, hbx⟩
        case measure => simp [intOf]; omega
      · obtain rfl : k = n := by omega
        have hyes : Hid (freeV xs = t) := Lib.hid (by
          have h := ht.out
          rw [List.take_of_length_le (by have := hl.out; omega)] at h
          rw [freeV, if_pos HV.out, h])
        go_wp2
        go_ret
        rw [hyes.out]
        exact ⟨rfl, hbr⟩
  · have hv' : spaceV xs = false := by simpa using hv
    have hno : Hid (freeV xs = -1) := Lib.hid (by rw [freeV, if_neg hv])
    rw [hv']
    clear hv hv'
    go_wp2
    go_ret
    rw [hno.out]
    exact ⟨rfl, hb2⟩

end Go.Proofs.Ythcjelijpeddbaa
