/- Contract of sameSpace: whether two lists of extents are equal. -/
import Derived.Test.YthcjelijpeddbaaEqX
import Derived.BigQuiet
import Derived.Deep.QuietTactic
import Derived.Outline
namespace Go.Proofs.Ythcjelijpeddbaa
open Go.RowKit
set_option linter.unusedVariables false

set_option maxHeartbeats 1000000 in
theorem sameSpace_any (a a' : Option Addr) (n n' c c' : Nat) (xs ys : List (Int × Int)) (w : World) (hr : RdX w a n xs) (hr' : RdX w a' n' ys) (hw : WfX xs) (hw' : WfX ys) (hn : n ≤ 4611686018427387904) (hn' : n' ≤ 4611686018427387904) :
    Calls Try.prog 11 #[.slice a n c, .slice a' n' c'] w (fun e w' => e = .returned (.bool (eqX xs ys)) ∧ ∃ m, w' = w.drewN m) := by
  have hl := Lib.hid hr.1
  have hl' := Lib.hid hr'.1
  by_cases hnn : n = n'
  · subst hnn
    go_enter Try.func11, Try.ntmps11
    go_wp2
    go_loopw [5] (fun i wr => ∃ k : Nat, k ≤ n ∧ i = .int .i64 k ∧ Hid (xs.take k = ys.take k) ∧ ∃ m, wr = w.drewN m)
      (fun i _ => n - (intOf i).toNat)
    case atStart => exact ⟨0, Nat.zero_le _, rfl, Lib.hid (by simp), 0, rfl⟩
    case round =>
      obtain ⟨k, hk, rfl, he, q, rfl⟩ := hrel
      by_cases hlt : k < n
      · obtain ⟨b, off, rfl, hblt, f, m, hfm, cf, cm, ⟨wf0, wf1⟩, wm0, wm1⟩ := hr.at_ hw hlt
        obtain ⟨b', off', rfl, hblt', f', m', hfm', cf', cm', ⟨wf0', wf1'⟩, wm0', wm1'⟩ := hr'.at_ hw' hlt
        have HX := Lib.hid hfm
        have HY := Lib.hid hfm'
        clear hfm hfm'
        have hk0 : (0 : Int) ≤ (k : Int) := by omega
        have hk1 : (k : Int) < (n : Int) := by omega
        by_cases hxy : f = f' ∧ m = m'
        · obtain ⟨rfl, rfl⟩ := hxy
          have hs := take_succ_eqX he.out (by have := hl.out; omega) (by have := hl'.out; omega) (by rw [HX.out, HY.out])
          have HS := Lib.hid hs
          clear hs
          go_wp2
          go_quiet (fail)
          go_wp2
          go_roundw
          case rel => exact ⟨k + 1, by omega, by go_num, HS, _, rfl⟩
          case measure => simp [intOf]; omega
        · have hf : Hid (eqX xs ys = false) := Lib.hid (eqX_false (k := k) (by rw [HX.out, HY.out]; intro h; injection h with h1 h2; exact hxy ⟨h1, h2⟩))
          by_cases h1 : f = f'
          · have h2 : ¬ m = m' := fun h => hxy ⟨h1, h⟩
            subst h1
            clear hxy
            go_wp2
            go_quiet (fail)
            go_wp2
            go_ret
            rw [hf.out]
            exact ⟨rfl, q + nq, by rw [World.drewN_drewN]⟩
          · clear hxy
            go_wp2
            go_quiet (fail)
            go_wp2
            go_ret
            rw [hf.out]
            exact ⟨rfl, q + nq, by rw [World.drewN_drewN]⟩
      · obtain rfl : k = n := by omega
        have hyes : Hid (eqX xs ys = true) := Lib.hid (by
          have h := he.out
          rw [List.take_of_length_le (by have := hl.out; omega), List.take_of_length_le (by have := hl'.out; omega)] at h
          simp [eqX, h])
        go_wp2
        go_ret
        rw [hyes.out]
        exact ⟨rfl, q, rfl⟩
  · have hno : Hid (eqX xs ys = false) := Lib.hid (by
      simp only [eqX, decide_eq_false_iff_not]
      rintro rfl
      exact hnn (hl.out.symm.trans hl'.out))
    have t1 : (((n : Int) : Int) != (n' : Int)) = true := by simp; omega
    go_enter Try.func11, Try.ntmps11
    go_wp2
    go_ret
    rw [hno.out]
    exact ⟨rfl, 0, rfl⟩

end Go.Proofs.Ythcjelijpeddbaa
