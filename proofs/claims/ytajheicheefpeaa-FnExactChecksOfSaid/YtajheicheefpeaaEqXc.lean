/- Contracts: eqCheck, eqCheckS: whether two lists of sums are equal. -/
import Derived.Test.YtajheicheefpeaaBaseXc
import Derived.Test.YtajheicheefpeaaIn
import Derived.BigQuiet
import Derived.Deep.QuietTactic
import Derived.StillTailTactics
import Derived.Outline
namespace Go.Proofs.Ytajheicheefpeaa
open Go.RowKit
set_option linter.unusedVariables false

def eqX (xs ys : List (Int × Int)) : Bool := decide (xs = ys)

theorem take_succ_eqX {xs ys : List (Int × Int)} {k : Nat} (h : xs.take k = ys.take k) (hx : k < xs.length) (hy : k < ys.length) (e : xs.getD k (0, 0) = ys.getD k (0, 0)) : xs.take (k + 1) = ys.take (k + 1) := by
  rw [List.take_succ_eq_append_getElem hx, List.take_succ_eq_append_getElem hy, h]
  simp [List.getD, hx, hy] at e
  rw [e]

theorem eqX_false {xs ys : List (Int × Int)} {k : Nat} (h : xs.getD k (0, 0) ≠ ys.getD k (0, 0)) : eqX xs ys = false := by
  simp only [eqX, decide_eq_false_iff_not]
  rintro rfl
  exact h rfl

set_option maxHeartbeats 400000 in
theorem eqCheck_any (f m f' m' : Int) (w : World) :
    Calls Try.prog 35 #[.agg #[.int .i64 f, .int .i64 m], .agg #[.int .i64 f', .int .i64 m']] w (RetB w (.bool (decide ((f, m) = (f', m'))))) := by
  by_cases h1 : f = f'
  · by_cases h2 : m = m'
    · subst h1 h2
      have t1 : (f != f) = false := by simp
      have t2 : (m != m) = false := by simp
      rw [show decide ((f, m) = (f, m)) = true by simp]
      go_enter Try.func35, Try.ntmps35
      go_wp2
      go_ret
      exact ⟨rfl, ((Below.refl _ _).alloc (Nat.le_refl _) _).alloc (by simp) _⟩
    · subst h1
      have t1 : (f != f) = false := by simp
      have t2 : (m != m') = true := by simp [h2]
      rw [show decide ((f, m) = (f, m')) = false by simp [h2]]
      clear h2
      go_enter Try.func35, Try.ntmps35
      go_wp2
      go_ret
      exact ⟨rfl, ((Below.refl _ _).alloc (Nat.le_refl _) _).alloc (by simp) _⟩
  · have t1 : (f != f') = true := by simp [h1]
    rw [show decide ((f, m) = (f', m')) = false by simp [h1]]
    clear h1
    go_enter Try.func35, Try.ntmps35
    go_wp2
    go_ret
    exact ⟨rfl, ((Below.refl _ _).alloc (Nat.le_refl _) _).alloc (by simp) _⟩

set_option maxRecDepth 100000 in
set_option maxHeartbeats 1000000 in
theorem eqCheckS_any (a a' : Option Addr) (n n' c c' : Nat) (xs ys : List (Int × Int)) (w : World) (hr : RdX w a n xs) (hr' : RdX w a' n' ys) (hw : WfX xs) (hw' : WfX ys) (hn : n ≤ 4611686018427387904) (hn' : n' ≤ 4611686018427387904) :
    Calls Try.prog 12 #[.slice a n c, .slice a' n' c'] w (RetB w (.bool (eqX xs ys))) := by
  have hl := Lib.hid hr.1
  have hl' := Lib.hid hr'.1
  by_cases hnn : n = n'
  · subst hnn
    go_enter Try.func12, Try.ntmps12
    go_wp2
    go_loopw [5] (fun i wr => ∃ k : Nat, k ≤ n ∧ i = .int .i64 k ∧ Hid (xs.take k = ys.take k) ∧ Below w.heap.size w wr)
      (fun i _ => n - (intOf i).toNat)
    case atStart => exact ⟨0, Nat.zero_le _, rfl, Lib.hid (by simp), Below.refl _ _⟩
    case round =>
      obtain ⟨k, hk, rfl, he, hbr⟩ := hrel
      by_cases hlt : k < n
      · obtain ⟨b, off, rfl, hblt, f, m, hfm, cf, cm, ⟨wf0, wf1⟩, wm0, wm1⟩ := (hr.below hbr).at_ hw hlt
        obtain ⟨b', off', rfl, hblt', f', m', hfm', cf', cm', ⟨wf0', wf1'⟩, wm0', wm1'⟩ := (hr'.below hbr).at_ hw' hlt
        have HX := Lib.hid hfm
        have HY := Lib.hid hfm'
        clear hfm hfm'
        have hk0 : (0 : Int) ≤ (k : Int) := by omega
        have hk1 : (k : Int) < (n : Int) := by omega
        by_cases hxy : (f, m) = (f', m')
        · have hs := take_succ_eqX he.out (by have := hl.out; omega) (by have := hl'.out; omega) (by rw [HX.out, HY.out, hxy])
          have HS := Lib.hid hs
          have HT : Hid (decide ((f, m) = (f', m')) = true) := Lib.hid (by simp [hxy])
          have hbd := below_drewN hbr 1
          have hbd' : Below w.heap.size w wr.drew := hbd
          clear hxy hs hbd
          go_wp2
          go_still_tail 8, (by kernel_rfl)
          change wpList _ _ _ _ _ wr.drew
          generalize wr.drew = W at hbd' ⊢
          go_wp2_with fail
          with_reducible refine (eqCheck_any f m f' m' _).mono ?_
          rintro e w2 ⟨rfl, hb2⟩
          have hb3 := hbd'.trans (hb2.mono hbd'.size)
          rw [HT.out]
          clear hb2
          go_wp2
          go_roundw
          case rel => exact ⟨k + 1, by omega, by go_num, HS, hb3⟩
          case measure => simp [intOf]; omega
        · have hf : Hid (eqX xs ys = false) := Lib.hid (eqX_false (k := k) (by rw [HX.out, HY.out]; exact hxy))
          have HT : Hid (decide ((f, m) = (f', m')) = false) := Lib.hid (by simpa using hxy)
          have hbd := below_drewN hbr 1
          have hbd' : Below w.heap.size w wr.drew := hbd
          clear hxy hbd
          go_wp2
          go_still_tail 8, (by kernel_rfl)
          change wpList _ _ _ _ _ wr.drew
          generalize wr.drew = W at hbd' ⊢
          go_wp2_with fail
          with_reducible refine (eqCheck_any f m f' m' _).mono ?_
          rintro e w2 ⟨rfl, hb2⟩
          have hb3 := hbd'.trans (hb2.mono hbd'.size)
          rw [HT.out]
          clear hb2
          go_wp2
          go_ret
          rw [hf.out]
          exact ⟨rfl, hb3⟩
      · obtain rfl : k = n := by omega
        have hyes : Hid (eqX xs ys = true) := Lib.hid (by
          have h := he.out
          rw [List.take_of_length_le (by have := hl.out; omega), List.take_of_length_le (by have := hl'.out; omega)] at h
          simp [eqX, h])
        go_wp2
        go_ret
        rw [hyes.out]
        exact ⟨rfl, hbr⟩
  · have hno : Hid (eqX xs ys = false) := Lib.hid (by
      simp only [eqX, decide_eq_false_iff_not]
      rintro rfl
      exact hnn (hl.out.symm.trans hl'.out))
    have t1 : (((n : Int) : Int) != (n' : Int)) = true := by simp; omega
    go_enter Try.func12, Try.ntmps12
    go_wp2
    go_ret
    rw [hno.out]
    exact ⟨rfl, Below.refl _ _⟩


end Go.Proofs.Ytajheicheefpeaa
