/- Contracts: Extent.valid, impl.SpaceValid, spec.SpaceValid. -/
import Derived.Test.YthcjelijpeddbaaBaseX
import Derived.Test.YthcjelijpeddbaaPlainSpace
import Derived.Test.YthcjelijpeddbaaIn
import Derived.BigQuiet
import Derived.Deep.QuietTactic
import Derived.Outline
namespace Go.Proofs.Ythcjelijpeddbaa
open Go.RowKit
set_option linter.unusedVariables false

set_option maxHeartbeats 1000000 in
theorem extValid_any (f m : Int) (w : World) (hf0 : -9223372036854775808 ≤ f) (hf1 : f ≤ 9223372036854775807) (hm0 : -9223372036854775808 ≤ m) (hm1 : m ≤ 9223372036854775807) :
    Calls Try.prog 32 #[.agg #[.int .i64 f, .int .i64 m]] w (RetB w (.bool (validX (f, m)))) := by
  by_cases h1 : 0 ≤ f
  · by_cases h2 : f < 100
    · by_cases h3 : 1 ≤ m
      · by_cases h4 : m ≤ 100 - f
        · have hv : Hid (validX (f, m) = true) := Lib.hid (by rw [validX_iff]; exact ⟨h1, h2, h3, h4⟩)
          go_enter Try.func32, Try.ntmps32
          go_wp2
          go_ret
          rw [hv.out]
          exact ⟨rfl, (Below.refl _ _).alloc (Nat.le_refl _) _⟩
        · have hv : Hid (validX (f, m) = false) := Lib.hid (by rw [Bool.eq_false_iff]; intro h; rw [validX_iff] at h; exact h4 h.2.2.2)
          go_enter Try.func32, Try.ntmps32
          go_wp2
          go_ret
          rw [hv.out]
          exact ⟨rfl, (Below.refl _ _).alloc (Nat.le_refl _) _⟩
      · have hv : Hid (validX (f, m) = false) := Lib.hid (by rw [Bool.eq_false_iff]; intro h; rw [validX_iff] at h; exact h3 h.2.2.1)
        go_enter Try.func32, Try.ntmps32
        go_wp2
        go_ret
        rw [hv.out]
        exact ⟨rfl, (Below.refl _ _).alloc (Nat.le_refl _) _⟩
    · have hv : Hid (validX (f, m) = false) := Lib.hid (by rw [Bool.eq_false_iff]; intro h; rw [validX_iff] at h; exact h2 h.2.1)
      go_enter Try.func32, Try.ntmps32
      go_wp2
      go_ret
      rw [hv.out]
      exact ⟨rfl, (Below.refl _ _).alloc (Nat.le_refl _) _⟩
  · have hv : Hid (validX (f, m) = false) := Lib.hid (by rw [Bool.eq_false_iff]; intro h; rw [validX_iff] at h; exact h1 h.1)
    go_enter Try.func32, Try.ntmps32
    go_wp2
    go_ret
    rw [hv.out]
    exact ⟨rfl, (Below.refl _ _).alloc (Nat.le_refl _) _⟩

theorem validFrom_drop {xs : List (Int × Int)} {k : Nat} (h : k < xs.length) (l : Int) :
    validFrom l (xs.drop k) = (validX (xs.getD k (0, 0)) && decide (l ≤ (xs.getD k (0, 0)).1) && validFrom ((xs.getD k (0, 0)).1 + (xs.getD k (0, 0)).2 + 1) (xs.drop (k + 1))) := by
  have e : xs.getD k (0, 0) = xs[k] := by simp [List.getD_eq_getElem?_getD, h]
  rw [List.drop_eq_getElem_cons h, e]
  rfl

set_option maxHeartbeats 1000000 in
theorem implSpaceValid_any (a : Option Addr) (n c : Nat) (xs : List (Int × Int)) (w : World) (hr : RdX w a n xs) (hwf : WfX xs) (hn : n ≤ 4611686018427387904) :
    Calls Try.prog 22 #[.slice a n c] w (RetB w (.bool (spaceV xs))) := by
  have hl := Lib.hid hr.1
  go_enter Try.func22, Try.ntmps22
  go_wp2
  go_loopw [3, 8] (fun v i wr => ∃ k : Nat, k ≤ n ∧ i = .int .i64 k ∧ ∃ l : Int, 0 ≤ l ∧ l ≤ 101 ∧ v = .int .i64 l ∧ Hid (spaceV xs = validFrom l (xs.drop k)) ∧ Below w.heap.size w wr)
    (fun _ i _ => n - (intOf i).toNat)
  case atStart => exact ⟨0, Nat.zero_le _, rfl, 0, by omega, by omega, rfl, Lib.hid rfl, Below.refl _ _⟩
  case round =>
    obtain ⟨k, hk, rfl, l, hl0, hl1, rfl, hs, hb⟩ := hrel
    by_cases hlt : k < n
    · obtain ⟨b, off, rfl, hblt, f, m, hfm, cf, cm, ⟨wf0, wf1⟩, wm0, wm1⟩ := (hr.below hb).at_ hwf hlt
      have hdr := validFrom_drop (xs := xs) (k := k) (by have := hl.out; omega) l
      rw [hfm, ← hs.out] at hdr
      have HD := Lib.hid hdr
      clear hfm hdr
      go_wp2_with fail
      with_reducible refine (extValid_any f m _ wf0 wf1 wm0 wm1).mono ?_
      rintro e w2 ⟨rfl, hb2⟩
      obtain ⟨b0, b1, hb3, _⟩ := box_keep hb2
      have hb4 := hb.trans (hb3.mono hb.size)
      clear hb2 hb3 cf cm
      by_cases hv : validX (f, m) = true
      · have hvv := (validX_iff _).1 hv
        simp only at hvv
        obtain ⟨v0, v1, v2, v3⟩ := hvv
        rw [hv]
        by_cases hlf : f < l
        · have hno : Hid (spaceV xs = false) := Lib.hid (by rw [HD.out, decide_eq_false (show ¬ l ≤ f by omega), Bool.and_false, Bool.false_and])
          go_wp2
          go_ret
          rw [hno.out]
          exact ⟨rfl, hb4⟩
        · have hnx : Hid (spaceV xs = validFrom (f + m + 1) (xs.drop (k + 1))) := Lib.hid (by rw [HD.out, hv, decide_eq_true (show l ≤ f by omega), Bool.true_and, Bool.true_and])
          go_wp2
          go_roundw
          case rel => exact ⟨k + 1, by omega, by go_num, f + m + 1, by omega, by omega, rfl, hnx, hb4⟩
          case measure => simp [intOf]; omega
      · have hv' : validX (f, m) = false := by simpa using hv
        have hno : Hid (spaceV xs = false) := Lib.hid (by rw [HD.out, hv']; rfl)
        rw [hv']
        clear hv
        go_wp2
        go_ret
        rw [hno.out]
        exact ⟨rfl, hb4⟩
    · obtain rfl : k = n := by omega
      have hyes : Hid (spaceV xs = true) := Lib.hid (by rw [hs.out, List.drop_of_length_le (by have := hl.out; omega)]; rfl)
      go_wp2
      go_ret
      rw [hyes.out]
      exact ⟨rfl, hb⟩

set_option maxHeartbeats 1000000 in
theorem specSpaceValid_any (a : Option Addr) (n c : Nat) (xs : List (Int × Int)) (w : World) (hr : RdX w a n xs) (hwf : WfX xs) (hn : n ≤ 4611686018427387904) :
    Calls Try.prog 30 #[.slice a n c] w (RetB w (.bool (spaceV xs))) := by
  have hl := Lib.hid hr.1
  go_enter Try.func30, Try.ntmps30
  go_wp2
  go_loopw [3] (fun i wr => ∃ k : Nat, k ≤ n ∧ i = .int .i64 k ∧ (∃ l : Int, Hid (spaceV xs = validFrom l (xs.drop k) ∧ (k = 0 → l = 0) ∧ (0 < k → ((xs.getD (k - 1) (0, 0)).1 + (xs.getD (k - 1) (0, 0)).2 + 1 = l ∧ validX (xs.getD (k - 1) (0, 0)) = true)))) ∧ Below w.heap.size w wr)
    (fun i _ => n - (intOf i).toNat)
  case atStart => exact ⟨0, Nat.zero_le _, rfl, ⟨0, Lib.hid ⟨rfl, fun _ => rfl, fun h => absurd h (Nat.lt_irrefl _)⟩⟩, Below.refl _ _⟩
  case round =>
    obtain ⟨k, hk, rfl, ⟨l, hs⟩, hb⟩ := hrel
    by_cases hlt : k < n
    · obtain ⟨b, off, ha, hblt, f, m, hfm, cf, cm, ⟨wf0, wf1⟩, wm0, wm1⟩ := (hr.below hb).at_ hwf hlt
      subst ha
      have hdr := validFrom_drop (xs := xs) (k := k) (by have := hl.out; omega) l
      rw [hfm, ← hs.out.1] at hdr
      have HD := Lib.hid hdr
      have HFM := Lib.hid hfm
      clear hfm hdr
      have hbW : Below w.heap.size w (wr.alloc (.cells #[.int .i64 f, .int .i64 m] 32)) := hb.alloc hb.size _
      by_cases e1 : inB f 0 99 = true
      · have e1' := e1
        simp only [inB, Bool.and_eq_true, decide_eq_true_eq] at e1'
        obtain ⟨f0, f1⟩ := e1'
        by_cases e2 : inB m 1 100 = true
        · have e2' := e2
          simp only [inB, Bool.and_eq_true, decide_eq_true_eq] at e2'
          obtain ⟨m0, m1⟩ := e2'
          by_cases e3 : f + m ≤ 100
          · have hv : validX (f, m) = true := by rw [validX_iff]; exact ⟨f0, by simp only; omega, m0, by simp only; omega⟩
            have HV := Lib.hid hv
            clear hv
            by_cases hk0 : k = 0
            · have d2 : decide (0 < k) = false := by simp; omega
              have hnx : Hid (spaceV xs = validFrom (f + m + 1) (xs.drop (k + 1))) := Lib.hid (by
                rw [HD.out, HV.out, decide_eq_true (show l ≤ f by rw [hs.out.2.1 hk0]; exact f0), Bool.true_and, Bool.true_and])
              have HK0 := Lib.hid hk0
              clear hk0
              go_wp2_with (go_at_call 31; refine (l6In_any _ _ _ _).mono ?_; rintro e w' ⟨rfl, rfl⟩)
              clear cf cm
              generalize wr.alloc (.cells #[.int .i64 f, .int .i64 m] 32) = W at *
              go_quiet (fail)
              go_wp2
              go_roundw
              case rel => exact ⟨k + 1, by omega, by go_num, ⟨f + m + 1, Lib.hid ⟨hnx.out, fun h => by omega, fun _ => by rw [Nat.add_sub_cancel, HFM.out]; exact ⟨rfl, HV.out⟩⟩⟩, below_drewN hbW _⟩
              case measure => simp [intOf]; omega
            · have d2 : decide (0 < k) = true := by simp; omega
              obtain ⟨b', off', ha, hblt', f', m', hfm', cf', cm', _, _⟩ := (hr.below hb).at_ hwf (i := k - 1) (by omega)
              injection ha with ha
              injection ha with hb1 ho1
              subst hb1
              subst ho1
              have hpv := hs.out.2.2 (by omega)
              rw [hfm'] at hpv
              obtain ⟨hpl, hpx⟩ := hpv
              have hpx' := (validX_iff _).1 hpx
              simp only at hpx' hpl
              obtain ⟨p0, p1, p2, p3⟩ := hpx'
              have HPL := Lib.hid hpl
              have bx := (box_keep (w := wr) (x := .int .i64 f) (y := .int .i64 m) (t := 32) (Below.refl _ _))
              have b0 := bx.1
              have cfW := (World.cell?_alloc_lt wr (.cells #[.int .i64 f, .int .i64 m] 32) ⟨b, off + (k - 1) * 2, none⟩ hblt).trans cf'
              have cmW := (World.cell?_alloc_lt wr (.cells #[.int .i64 f, .int .i64 m] 32) ⟨b, off + (k - 1) * 2 + 1, none⟩ hblt).trans cm'
              have j4 : (0 : Int) ≤ (k : Int) - 1 := by omega
              have j5 : (k : Int) - 1 < (n : Int) := by omega
              clear hpl hpx hfm' bx hk0 cf' cm'
              go_wp2_with (go_at_call 31; refine (l6In_any _ _ _ _).mono ?_; rintro e w' ⟨rfl, rfl⟩)
              clear cf cm
              generalize wr.alloc (.cells #[.int .i64 f, .int .i64 m] 32) = W at *
              by_cases hle : f ≤ f' + m'
              · have hno : Hid (spaceV xs = false) := Lib.hid (by rw [HD.out, decide_eq_false (show ¬ l ≤ f by have := HPL.out; omega), Bool.and_false, Bool.false_and])
                go_quiet (fail)
                go_wp2
                go_ret
                rw [hno.out]
                exact ⟨rfl, below_drewN hbW _⟩
              · have hnx : Hid (spaceV xs = validFrom (f + m + 1) (xs.drop (k + 1))) := Lib.hid (by
                  rw [HD.out, HV.out, decide_eq_true (show l ≤ f by have := HPL.out; omega), Bool.true_and, Bool.true_and])
                go_quiet (fail)
                go_wp2
                go_roundw
                case rel => exact ⟨k + 1, by omega, by go_num, ⟨f + m + 1, Lib.hid ⟨hnx.out, fun h => by omega, fun _ => by rw [Nat.add_sub_cancel, HFM.out]; exact ⟨rfl, HV.out⟩⟩⟩, below_drewN hbW _⟩
                case measure => simp [intOf]; omega
          · have hno : Hid (spaceV xs = false) := Lib.hid (by
              have : validX (f, m) = false := by rw [Bool.eq_false_iff]; intro h; rw [validX_iff] at h; simp only at h; omega
              rw [HD.out, this]; rfl)
            go_wp2_with (go_at_call 31; refine (l6In_any _ _ _ _).mono ?_; rintro e w' ⟨rfl, rfl⟩)
            go_ret
            rw [hno.out]
            exact ⟨rfl, hbW⟩
        · have e2' : inB m 1 100 = false := by simpa using e2
          have hno : Hid (spaceV xs = false) := Lib.hid (by
            have : validX (f, m) = false := by
              rw [Bool.eq_false_iff]; intro h; rw [validX_iff] at h; simp only at h
              apply e2; simp only [inB, Bool.and_eq_true, decide_eq_true_eq]; omega
            rw [HD.out, this]; rfl)
          clear e2
          go_wp2_with (go_at_call 31; refine (l6In_any _ _ _ _).mono ?_; rintro e w' ⟨rfl, rfl⟩)
          go_ret
          rw [hno.out]
          exact ⟨rfl, hbW⟩
      · have e1' : inB f 0 99 = false := by simpa using e1
        have hno : Hid (spaceV xs = false) := Lib.hid (by
          have : validX (f, m) = false := by
            rw [Bool.eq_false_iff]; intro h; rw [validX_iff] at h; simp only at h
            apply e1; simp only [inB, Bool.and_eq_true, decide_eq_true_eq]; omega
          rw [HD.out, this]; rfl)
        clear e1
        go_wp2_with (go_at_call 31; refine (l6In_any _ _ _ _).mono ?_; rintro e w' ⟨rfl, rfl⟩)
        go_ret
        rw [hno.out]
        exact ⟨rfl, hbW⟩
    · obtain rfl : k = n := by omega
      have hyes : Hid (spaceV xs = true) := Lib.hid (by rw [hs.out.1, List.drop_of_length_le (by have := hl.out; omega)]; rfl)
      go_wp2
      go_ret
      rw [hyes.out]
      exact ⟨rfl, hb⟩

end Go.Proofs.Ythcjelijpeddbaa
