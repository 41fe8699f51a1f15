/- Contracts of the reference's StoreValid. -/
import Derived.Test.YtkjimngpodhdbaaHeld
import Derived.Test.YtkjimngpodhdbaaPlainStore
import Derived.Test.YtkjimngpodhdbaaValid
import Derived.IntWalk
import Derived.BigQuiet
import Derived.Deep.QuietTactic
import Derived.Deep.RegionWith
import Derived.StillTailTactics
import Derived.Outline
namespace Go.Proofs.Ytkjimngpodhdbaa
open Go.RowKit
set_option linter.unusedVariables false

theorem valsH_get {xs : List HV} {k : Nat} {x : HV} (h : xs[k]? = some x) : (valsH xs)[k]? = some x.val := by unfold valsH; rw [List.getElem?_map, h]; rfl
theorem valsH_len (xs : List HV) : (valsH xs).length = xs.length := by simp [valsH]

theorem one_boxH (w : World) (a b c : Value) (t : TypeId) :
    w.heap.size < (w.alloc (.cells #[a, b, c] t)).heap.size ∧ (w.alloc (.cells #[a, b, c] t)).cell? ⟨w.heap.size, 0, none⟩ = some a ∧ (w.alloc (.cells #[a, b, c] t)).cell? ⟨w.heap.size, 1, none⟩ = some b ∧ (w.alloc (.cells #[a, b, c] t)).cell? ⟨w.heap.size, 2, none⟩ = some c := by
  have h1 : ∀ j, (w.alloc (.cells #[a, b, c] t)).cell? ⟨w.heap.size, j, none⟩ = #[a, b, c][j]? := fun j => cell_of_row _ w.heap.size _ _ _ (0, 0) (heap_alloc_new w _)
  exact ⟨by simp, by rw [h1]; rfl, by rw [h1]; rfl, by rw [h1]; rfl⟩

theorem still_of {f : FuncId} {args : Array Value} {w : World} {v : Value} (h : Calls Try.prog f args w fun e w' => e = .returned v ∧ w = w') : Calls Try.prog f args w fun e w' => e = .returned v ∧ w' = w :=
  h.mono fun e w' h => ⟨h.1, h.2.symm⟩

theorem good_bad0 {xs : List HV} {k : Nat} {x : HV} (hx : xs[k]? = some x) (h : okH x.val = false) : storeV (valsH xs) = false := by
  have hv := valsH_get hx
  refine storeV_bad (j := k) (List.getElem?_eq_some_iff.1 hv).1 ?_
  cases k with
  | zero => rw [goodAt_zero hv]; exact h
  | succ k =>
    obtain ⟨y, hy⟩ : ∃ y, (valsH xs)[k + 1 - 1]? = some y := ⟨_, List.getElem?_eq_getElem (by have := (List.getElem?_eq_some_iff.1 hv).1; omega)⟩
    rw [goodAt_succ (by omega) hv hy, h, Bool.false_and]

theorem good_bad1 {xs : List HV} {k : Nat} {x y : HV} (h0 : 0 < k) (hx : xs[k]? = some x) (hy : xs[k - 1]? = some y) (h : ¬ y.id < x.id) : storeV (valsH xs) = false := by
  have hv := valsH_get hx
  refine storeV_bad (j := k) (List.getElem?_eq_some_iff.1 hv).1 ?_
  rw [goodAt_succ h0 hv (valsH_get hy), show befH y.val x.val = false from decide_eq_false h, Bool.and_false]

theorem good_yes0 {xs : List HV} {x : HV} (hx : xs[0]? = some x) (h : okH x.val = true) : goodAt okH befH (valsH xs) 0 = true := by rw [goodAt_zero (valsH_get hx)]; exact h
theorem good_yes1 {xs : List HV} {k : Nat} {x y : HV} (h0 : 0 < k) (hx : xs[k]? = some x) (hy : xs[k - 1]? = some y) (h : okH x.val = true) (hlt : y.id < x.id) : goodAt okH befH (valsH xs) k = true := by
  rw [goodAt_succ h0 (valsH_get hx) (valsH_get hy), h, show befH y.val x.val = true from decide_eq_true hlt]; rfl

theorem quiet_q {f : FuncId} {args : Array Value} {w : World} {q r : Nat} {v : Value} (h : Calls Try.prog f args (w.drewN (q + r)) fun e w' => e = .returned v ∧ ∃ m, w' = (w.drewN (q + r)).drewN m) :
    Calls Try.prog f args (w.drewN (q + r)) fun e w'' => e = .returned v ∧ ∃ m, w'' = w.drewN (q + m) := by
  refine h.mono ?_
  rintro e w' ⟨h1, m, h2⟩
  refine ⟨h1, r + m, ?_⟩
  rw [h2, World.drewN_drewN, Nat.add_assoc]

set_option maxHeartbeats 1000000 in
theorem specStoreValid_any (a : Option Addr) (n c : Nat) (xs : List HV) (w : World) (hr : RdR eltH w a n xs) (hi : InH w xs) (hs : ∀ x ∈ xs, x.zs.length ≤ 4611686018427387904) (hn : n ≤ 4611686018427387904) :
    Calls Try.prog 9 #[.slice a n c] w (RetB w (.bool (storeV (valsH xs)))) := by
  have hl := Lib.hid hr.1
  have HI := Lib.hid hi
  have HS := Lib.hid hs
  clear hi hs
  go_enter Try.func9, Try.ntmps9
  go_wp2
  go_loopw [3] (fun i wr => ∃ k : Nat, k ≤ n ∧ i = .int .i64 k ∧ Hid (∀ j, j < k → goodAt okH befH (valsH xs) j = true) ∧ Hid (noTwin (valsH xs) k) ∧ Below w.heap.size w wr)
    (fun i _ => n - (intOf i).toNat)
  case atStart => exact ⟨0, Nat.zero_le _, rfl, Lib.hid (fun j h => by omega), Lib.hid (noTwin_zero _), Below.refl _ _⟩
  case round =>
    obtain ⟨k, hk, rfl, hgood, htw, hb⟩ := hrel
    by_cases hlt : k < n
    · obtain ⟨b, off, x, rfl, hbl, hx, c0, c1, c2⟩ := atH (hr.below hb) hlt
      have hsx := HS.out x (List.mem_of_getElem? hx)
      have hrx := (HI.out x (List.mem_of_getElem? hx)).below hb
      have HX := Lib.hid hx
      clear hx
      have hbx := one_boxH wr (.int .i64 x.id) (.slice x.ad x.zs.length x.cp) (.int .i64 x.us) 47
      have hHl := hbx.1
      have q0 := hbx.2.1
      have q1 := hbx.2.2.1
      have q2 := hbx.2.2.2
      have hbw := hb.alloc hb.size (.cells #[.int .i64 x.id, .slice x.ad x.zs.length x.cp, .int .i64 x.us] 47)
      have hwb : Below wr.heap.size wr (wr.alloc (.cells #[.int .i64 x.id, .slice x.ad x.zs.length x.cp, .int .i64 x.us] 47)) := (Below.refl _ _).alloc (Nat.le_refl _) _
      have hrx1 := hrx.below hwb
      clear hbx
      have K1 := fun w => still_of (l6In_any x.id 1 99 w)
      have K2 := fun m => still_of (specBlockValid_any x.ad x.zs.length x.cp x.zs ((wr.alloc (.cells #[.int .i64 x.id, .slice x.ad x.zs.length x.cp, .int .i64 x.us] 47)).drewN m) hrx1 hsx)
      have K3 := fun w => still_of (l6In_any x.us 1 999 w)
      have hokd : okH x.val = (inB x.id 1 99 && blockV x.zs && inB x.us 1 999) := rfl
      cases h1 : inB x.id 1 99 with
      | false =>
        rw [h1] at K1
        have HF := Lib.hid (good_bad0 HX.out (by rw [hokd, h1]; rfl))
        clear h1 hokd
        go_wp2
        generalize wr.alloc (.cells #[.int .i64 x.id, .slice x.ad x.zs.length x.cp, .int .i64 x.us] 47) = W1 at hHl q0 q1 q2 hbw hrx1 K2 ⊢
        go_quiet ((first
          | (go_at_call_of 26 (Value.int .i64 99); exact Calls.quiet_of_same (K1 _))
          | (go_at_call_of 26 (Value.int .i64 999); exact Calls.quiet_of_same (K3 _))
          | (go_at_call 27; exact Calls.quiet_of_same (K2 _))))
        go_wp2
        go_ret
        rw [HF.out]
        exact ⟨rfl, below_drewNH hbw _⟩
      | true =>
        cases h2 : blockV x.zs with
        | false =>
          rw [h1] at K1
          rw [h2] at K2
          have HF := Lib.hid (good_bad0 HX.out (by rw [hokd, h1, h2]; rfl))
          clear h1 h2 hokd
          go_wp2
          generalize wr.alloc (.cells #[.int .i64 x.id, .slice x.ad x.zs.length x.cp, .int .i64 x.us] 47) = W1 at hHl q0 q1 q2 hbw hrx1 K2 ⊢
          go_quiet ((first
            | (go_at_call_of 26 (Value.int .i64 99); exact Calls.quiet_of_same (K1 _))
            | (go_at_call_of 26 (Value.int .i64 999); exact Calls.quiet_of_same (K3 _))
            | (go_at_call 27; exact Calls.quiet_of_same (K2 _))))
          go_wp2
          go_ret
          rw [HF.out]
          exact ⟨rfl, below_drewNH hbw _⟩
        | true =>
          cases h3 : inB x.us 1 999 with
          | false =>
            rw [h1] at K1
            rw [h2] at K2
            rw [h3] at K3
            have HF := Lib.hid (good_bad0 HX.out (by rw [hokd, h1, h2, h3]; rfl))
            clear h1 h2 h3 hokd
            go_wp2
            generalize wr.alloc (.cells #[.int .i64 x.id, .slice x.ad x.zs.length x.cp, .int .i64 x.us] 47) = W1 at hHl q0 q1 q2 hbw hrx1 K2 ⊢
            go_quiet ((first
              | (go_at_call_of 26 (Value.int .i64 99); exact Calls.quiet_of_same (K1 _))
              | (go_at_call_of 26 (Value.int .i64 999); exact Calls.quiet_of_same (K3 _))
              | (go_at_call 27; exact Calls.quiet_of_same (K2 _))))
            go_wp2
            go_ret
            rw [HF.out]
            exact ⟨rfl, below_drewNH hbw _⟩
          | true =>
            rw [h1] at K1
            rw [h2] at K2
            rw [h3] at K3
            have hok : Hid (okH x.val = true) := Lib.hid (by rw [hokd, h1, h2, h3]; rfl)
            clear h1 h2 h3 hokd
            by_cases hk0 : k = 0
            · subst hk0
              have HG := Lib.hid (good_step hgood.out (good_yes0 HX.out hok.out))
              simp only [Nat.zero_mul, Nat.add_zero] at c0 c1 c2
              go_wp2
              generalize wr.alloc (.cells #[.int .i64 x.id, .slice x.ad x.zs.length x.cp, .int .i64 x.us] 47) = W1 at hHl q0 q1 q2 hbw hrx1 K2 hwb ⊢
              go_quiet ((first
                | (go_at_call_of 26 (Value.int .i64 99); exact Calls.quiet_of_same (K1 _))
                | (go_at_call_of 26 (Value.int .i64 999); exact Calls.quiet_of_same (K3 _))
                | (go_at_call 27; exact Calls.quiet_of_same (K2 _))))
              have hbI : Below w.heap.size w (W1.drewN nq) := below_drewNH hbw nq
              have HW1 := Lib.hid hwb
              go_wp2
              go_loopw [5] (fun i wi => ∃ m : Nat, m ≤ 0 ∧ i = .int .i64 m ∧ Hid (∀ j y, j < m → xs[j]? = some y → y.zs ≠ x.zs) ∧ ∃ q, wi = W1.drewN q)
                (fun i _ => 0 - (intOf i).toNat)
              case atStart => exact ⟨0, Nat.zero_le _, rfl, Lib.hid (fun j y h => by omega), nq, rfl⟩
              case round =>
                obtain ⟨m, hm, rfl, hne, q, rfl⟩ := hrel
                by_cases hml : m < 0
                · exact absurd hml (by omega)
                · obtain rfl : m = 0 := by omega
                  have HT := Lib.hid (noTwin_succ htw.out (valsH_get HX.out) (fun j v hj hv => by
                    unfold valsH at hv
                    rw [List.getElem?_map] at hv
                    cases hz : xs[j]? with
                    | none => rw [hz] at hv; cases hv
                    | some z =>
                      rw [hz] at hv
                      injection hv with hv
                      rw [← hv]
                      exact hne.out j z hj hz))
                  go_wp2
                  go_roundw
                  case rel => exact ⟨1, by omega, by go_num, HG, HT, below_drewNH hbw _⟩
                  case measure => simp [intOf]; omega
            · obtain ⟨b2, off2, y, hbo, _, hy, e0, e1, e2⟩ := atH ((hr.below hb).below hwb) (show k - 1 < n by omega)
              injection hbo with hbo
              injection hbo with hbo1 hbo2
              subst hbo1 hbo2
              have i1 : (0 : Int) < (k : Int) := by omega
              have i6 : 0 < k := by omega
              have i9 : (1 : Int) ≤ (k : Int) := by omega
              have i10 : 1 ≤ k := by omega
              have i7 : decide ((0 : Int) < (k : Int)) = true := by simp; omega
              have i8 : decide (0 < k) = true := by simp; omega
              have i2 : (0 : Int) ≤ (k : Int) - 1 := by omega
              have i3 : ((k : Int) - 1).toNat = k - 1 := by omega
              have i4 : IntKind.i64.wrap ((k : Int) - 1) = (k : Int) - 1 := IntWalk.i64_in _ (by omega)
              have i5 : (k : Int) - 1 < (n : Int) := by omega
              clear e1 e2
              by_cases hyx : y.id < x.id
              · have dyx : decide (x.id ≤ y.id) = false := by simp; omega
                have HG := Lib.hid (good_step hgood.out (good_yes1 i6 HX.out hy hok.out hyx))
                clear hy hyx
                go_wp2
                generalize wr.alloc (.cells #[.int .i64 x.id, .slice x.ad x.zs.length x.cp, .int .i64 x.us] 47) = W1 at hHl q0 q1 q2 hbw hrx1 K2 hwb e0 ⊢
                go_quiet ((first
                  | (go_at_call_of 26 (Value.int .i64 99); exact Calls.quiet_of_same (K1 _))
                  | (go_at_call_of 26 (Value.int .i64 999); exact Calls.quiet_of_same (K3 _))
                  | (go_at_call 27; exact Calls.quiet_of_same (K2 _))))
                have hbI : Below w.heap.size w (W1.drewN nq) := below_drewNH hbw nq
                have HW1 := Lib.hid hwb
                go_wp2
                go_loopw [5] (fun i wi => ∃ m : Nat, m ≤ k ∧ i = .int .i64 m ∧ Hid (∀ j y, j < m → xs[j]? = some y → y.zs ≠ x.zs) ∧ ∃ q, wi = W1.drewN q)
                  (fun i _ => k - (intOf i).toNat)
                case atStart => exact ⟨0, Nat.zero_le _, rfl, Lib.hid (fun j y h => by omega), nq, rfl⟩
                case round =>
                  obtain ⟨m, hm, rfl, hne, q, rfl⟩ := hrel
                  by_cases hml : m < k
                  · obtain ⟨b2, off2, y, hbo, hbl2, hy, d0, d1, d2⟩ := atH ((hr.below hb).below hwb) (show m < n by omega)
                    injection hbo with hbo
                    injection hbo with hbo1 hbo2
                    subst hbo1 hbo2
                    have hsy := HS.out y (List.mem_of_getElem? hy)
                    have hry := ((HI.out y (List.mem_of_getElem? hy)).below hb).below hwb
                    have HY := Lib.hid hy
                    clear hy d0 d2
                    have hk0 : (0 : Int) ≤ (m : Int) := by omega
                    have hk1 : (m : Int) < (n : Int) := by omega
                    have K4 := fun j => l2Same_any y.ad x.ad y.zs.length x.zs.length y.cp x.cp y.zs x.zs (W1.drewN j) hry hrx1 hsy hsx
                    by_cases hyx : y.zs = x.zs
                    · have HF := Lib.hid (show storeV (valsH xs) = false from storeV_twin (valsH_get HY.out) (valsH_get HX.out) (by omega) hyx)
                      rw [show eqI y.zs x.zs = true by simp [eqI, hyx]] at K4
                      clear hyx
                      go_wp2
                      go_quiet ((go_at_call 28; exact quiet_q (K4 _)))
                      go_wp2
                      go_ret
                      rw [HF.out]
                      exact ⟨rfl, below_drewNH (below_drewNH hbw _) _⟩
                    · rw [show eqI y.zs x.zs = false by simp [eqI, hyx]] at K4
                      have HN : Hid (∀ j z, j < m + 1 → xs[j]? = some z → z.zs ≠ x.zs) := Lib.hid (fun j z hj hz => by
                        rcases Nat.lt_or_ge j m with h | h
                        · exact hne.out j z h hz
                        · obtain rfl : j = m := by omega
                          rw [HY.out] at hz
                          injection hz with hz
                          rw [← hz]; exact hyx)
                      clear hyx
                      go_wp2
                      go_quiet ((go_at_call 28; exact quiet_q (K4 _)))
                      go_wp2
                      go_roundw
                      case rel => exact ⟨m + 1, by omega, by go_num, HN, _, rfl⟩
                      case measure => simp [intOf]; omega
                  · obtain rfl : m = k := by omega
                    have HT := Lib.hid (noTwin_succ htw.out (valsH_get HX.out) (fun j v hj hv => by
                      unfold valsH at hv
                      rw [List.getElem?_map] at hv
                      cases hz : xs[j]? with
                      | none => rw [hz] at hv; cases hv
                      | some z =>
                        rw [hz] at hv
                        injection hv with hv
                        rw [← hv]
                        exact hne.out j z hj hz))
                    go_wp2
                    go_roundw
                    case rel => exact ⟨m + 1, by omega, by go_num, HG, HT, below_drewNH hbw _⟩
                    case measure => simp [intOf]; omega
              · have dyx : decide (x.id ≤ y.id) = true := by simp; omega
                have HF := Lib.hid (good_bad1 i6 HX.out hy hyx)
                clear hy hyx
                go_wp2
                generalize wr.alloc (.cells #[.int .i64 x.id, .slice x.ad x.zs.length x.cp, .int .i64 x.us] 47) = W1 at hHl q0 q1 q2 hbw hrx1 K2 e0 ⊢
                go_quiet ((first
                  | (go_at_call_of 26 (Value.int .i64 99); exact Calls.quiet_of_same (K1 _))
                  | (go_at_call_of 26 (Value.int .i64 999); exact Calls.quiet_of_same (K3 _))
                  | (go_at_call 27; exact Calls.quiet_of_same (K2 _))))
                go_wp2
                go_ret
                rw [HF.out]
                exact ⟨rfl, below_drewNH hbw _⟩
    · obtain rfl : k = n := by omega
      have HG := Lib.hid (show storeV (valsH xs) = decide ((valsH xs).length ≤ 16) from storeV_all (by rw [valsH_len, hl.out]; exact hgood.out) (by rw [valsH_len, hl.out]; exact htw.out))
      have h8 : Hid (decide ((k : Int) ≤ 16) = decide ((valsH xs).length ≤ 16)) := Lib.hid (by rw [valsH_len, hl.out]; by_cases h : k ≤ 16 <;> simp [h] <;> omega)
      go_wp2
      go_ret
      rw [HG.out, ← h8.out]
      exact ⟨rfl, hb⟩
    
    end Go.Proofs.Ytkjimngpodhdbaa
