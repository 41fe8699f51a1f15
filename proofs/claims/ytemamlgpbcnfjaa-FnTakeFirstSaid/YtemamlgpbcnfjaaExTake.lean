/- Walk of the exact law of TakeSpec. -/
import Derived.Test.YtemamlgpbcnfjaaTakeSpec
import Derived.Test.YtemamlgpbcnfjaaMarkX
import Derived.Test.YtemamlgpbcnfjaaExtent
import Derived.Test.YtemamlgpbcnfjaaEqX
import Derived.Test.YtemamlgpbcnfjaaTr
namespace Go.Proofs.Ytemamlgpbcnfjaa
open Go.RowKit
set_option linter.unusedVariables false

theorem eqX_self (xs : List (Int × Int)) : eqX xs xs = true := by simp [eqX]

theorem heldRdX {w : World} {B : Nat} {a : Option Addr} {c n : Nat} {k : Int} (h : OwnX w B a c (seqX k n)) : RdX w a n (seqX k n) := by
  have := h.rd
  rwa [seqX_length] at this

theorem takeR_length (xs : List (Int × Int)) (m : Int) : (takeR xs m).1.length ≤ 100 := by
  unfold takeR
  split
  · rename_i h
    split
    · rename_i r hr
      exact space_count (takeX_spec h.2.1 h.1 hr).1
    · simp
  · simp

set_option maxHeartbeats 4000000 in
theorem FnExactSpaceTake_core (a : Option Addr) (n c : Nat) (zs LL : List (Int × Int)) (m tt : Int) (bb : Bool) (w : World) (hr : RdX w a n zs) (hwf : WfX zs) (hn : n ≤ 1048576) (hz : zs.length ≤ 1048576) (hm : -9223372036854775808 ≤ m ∧ m ≤ 9223372036854775807) (hL : LL.length ≤ 1048576000) (hLL : (takeR zs m).1 = LL) (htt0 : (takeR zs m).2.1 = tt) (hbb0 : (takeR zs m).2.2 = bb) :
    Calls Try.prog 5 #[.slice a n c, .int .i64 m] w (Tr w) := by
  have c1 : ∀ (a : Option Addr) (n c : Nat) (w : World), RdX w a n zs → WfX zs → n ≤ 1048576 → Calls Try.prog 14 #[.slice a n c, .int .i64 m] w (RetT w LL tt bb) := fun a n c w h1 h2 h3 => by rw [← hLL, ← htt0, ← hbb0]; exact specSpaceTake_any a n c zs m w h1 h2 (by omega)
  have c2 : ∀ (a : Option Addr) (n c : Nat) (w : World), RdX w a n zs → WfX zs → n ≤ 1048576 → Calls Try.prog 12 #[.slice a n c, .int .i64 m] w (RetT w LL tt bb) := fun a n c w h1 h2 h3 => by rw [← hLL, ← htt0, ← hbb0]; exact implSpaceTake_any a n c zs m w h1 h2 (by omega)
  have C1 := Lib.hid c1
  have C2 := Lib.hid c2
  clear c1 c2 hLL hbb0 htt0
  · go_enter Try.func5, Try.ntmps5
    go_wp2_with fail
    with_reducible refine (szExtentS_ok a n c 1048576 _ (by omega) (by omega) (by omega)).mono ?_
    rintro e w' ⟨rfl, rfl⟩
    have hA_0 := hr
    go_wp2_with fail
    with_reducible refine (toExtentS_any a n c zs _ hA_0 hwf hn).mono ?_
    rintro e w1 ⟨aS, cS, rfl, hS_1, hb_1⟩
    have hA_1 := hA_0.below hb_1
    have hB_1 : Below w.heap.size w w1 := hb_1
    have hsz_1 := hb_1.size
    clear hb_1
    go_wp2_with fail
    with_reducible refine (C1.out aS _ cS _ hS_1.rd hS_1.wf (by omega)).mono ?_
    rintro e w2 ⟨aW, cW, rfl, hW_2, hb_2⟩
    have hA_2 := hA_1.below hb_2
    have hS_2 := hS_1.below hb_2
    clear hA_1 hS_1
    have hB_2 := hB_1.trans (hb_2.mono hB_1.size)
    clear hB_1
    have hsz_2 := hb_2.size
    clear hb_2
    clear hS_2
    have hWlt : ∀ k, (Value.slice aW LL.length cW).ownBlock = some k → k < w2.heap.size := fun k hk => (hW_2.2.lt k hk).2
    go_wp2_with fail
    with_reducible refine (toExtentS_any a n c zs _ hA_2 hwf hn).mono ?_
    rintro e w3 ⟨aX, cX, rfl, hX_3, hb_3⟩
    have hA_3 := hA_2.below hb_3
    have hW_3 := hW_2.below hb_3
    clear hA_2 hW_2
    have hB_3 := hB_2.trans (hb_3.mono hB_2.size)
    clear hB_2
    have hsz_3 := hb_3.size
    clear hb_3
    have hXlt : ∀ k, (Value.slice aX zs.length cX).ownBlock = some k → k < w3.heap.size := fun k hk => (hX_3.2.lt k hk).2
    go_wp2_with fail
    with_reducible refine (C2.out aX _ cX _ hX_3.rd hX_3.wf (by omega)).mono ?_
    rintro e w4 ⟨aG, cG, rfl, hG_4, hb_4⟩
    have hA_4 := hA_3.below hb_4
    have hW_4 := hW_3.below hb_4
    have hX_4 := hX_3.below hb_4
    clear hA_3 hW_3 hX_3
    have hB_4 := hB_3.trans (hb_4.mono hB_3.size)
    clear hB_3
    have hsz_4 := hb_4.size
    clear hb_4
    have hbb : (bb != bb) = false := by simp
    have htt : (tt != tt) = false := by simp
    go_wp2_with fail
    with_reducible refine (eqExtentS_any aG aW _ _ cG cW LL LL _ hG_4.rd hW_4.rd hG_4.wf hW_4.wf (by omega) (by omega)).mono ?_
    rintro e w5 ⟨rfl, hb_5⟩
    rw [eqX_self]
    have hA_5 := hA_4.below hb_5
    have hW_5 := hW_4.below hb_5
    have hX_5 := hX_4.below hb_5
    have hG_5 := hG_4.below hb_5
    clear hA_4 hW_4 hX_4 hG_4
    have hB_5 := hB_4.trans (hb_5.mono hB_4.size)
    clear hB_4
    clear hb_5
    go_wp2_with fail
    with_reducible refine (toExtentS_any a n c zs _ hA_5 hwf hn).mono ?_
    rintro e w6 ⟨aY, cY, rfl, hY_6, hb_6⟩
    have hA_6 := hA_5.below hb_6
    have hW_6 := hW_5.below hb_6
    have hX_6 := hX_5.below hb_6
    have hG_6 := hG_5.below hb_6
    clear hA_5 hW_5 hX_5 hG_5
    have hB_6 := hB_5.trans (hb_6.mono hB_5.size)
    clear hB_5
    have hsz_6 := hb_6.size
    clear hb_6
    go_wp2_with fail
    with_reducible refine (eqExtentS_any aX aY _ _ cX cY zs zs _ hX_6.rd hY_6.rd hX_6.wf hY_6.wf (by omega) (by omega)).mono ?_
    rintro e w7 ⟨rfl, hb_7⟩
    rw [eqX_self]
    have hA_7 := hA_6.below hb_7
    have hW_7 := hW_6.below hb_7
    have hX_7 := hX_6.below hb_7
    have hG_7 := hG_6.below hb_7
    have hY_7 := hY_6.below hb_7
    clear hA_6 hW_6 hX_6 hG_6 hY_6
    have hB_7 := hB_6.trans (hb_7.mono hB_6.size)
    clear hB_6
    clear hb_7
    clear hY_7
    go_wp2_with fail
    with_reducible refine (markExtentS_any _ aX cX zs 1 _ hX_7 (by omega) (by omega) (by omega)).mono ?_
    rintro e w8 ⟨rfl, hX_8, hg_8⟩
    have hW_8 := (hW_7).apart hg_8 (fun k hk r hr => by have := hWlt k hk; have := (hX_7.2.lt r hr).1; omega)
    have hG_8 := (hG_7).apart hg_8 (fun k hk r hr => by have := hXlt r hr; have := (hG_7.2.lt k hk).1; omega)
    have hB_8 := hB_7.grown hg_8 hB_7.size (fun r hr => by have := (hX_7.2.lt r hr).1; omega)
    have hA_8 := hA_0.below hB_8
    clear hB_7 hg_8 hA_7 hW_7 hX_7 hG_7
    clear hX_8
    go_wp2_with fail
    with_reducible refine (eqExtentS_any aG aW _ _ cG cW LL LL _ hG_8.rd hW_8.rd hG_8.wf hW_8.wf (by omega) (by omega)).mono ?_
    rintro e w9 ⟨rfl, hb_9⟩
    rw [eqX_self]
    have hA_9 := hA_8.below hb_9
    have hW_9 := hW_8.below hb_9
    have hG_9 := hG_8.below hb_9
    clear hA_8 hW_8 hG_8
    have hB_9 := hB_8.trans (hb_9.mono hB_8.size)
    clear hB_8
    clear hb_9
    go_wp2_with fail
    with_reducible refine (markExtentS_any _ aG cG LL 1 _ hG_9 (by omega) (by omega) (by omega)).mono ?_
    rintro e w10 ⟨rfl, hG_10, hg_10⟩
    have hW_10 := (hW_9).apart hg_10 (fun k hk r hr => by have := hWlt k hk; have := (hG_9.2.lt r hr).1; omega)
    have hB_10 := hB_9.grown hg_10 hB_9.size (fun r hr => by have := (hG_9.2.lt r hr).1; omega)
    have hA_10 := hA_0.below hB_10
    clear hB_9 hg_10 hA_9 hW_9 hG_9
    go_wp2_with fail
    with_reducible refine (heldExtentS_any aG _ cG 1 _ (heldRdX hG_10) (by omega) (by omega) (by omega)).mono ?_
    rintro e w' ⟨rfl, rfl⟩
    have hqq : ((1 + 2 * (LL.length : Int)) != 1 + 2 * (LL.length : Int)) = false := by simp
    go_wp2_with fail
    with_reducible refine (toExtentS_any a n c zs _ hA_10 hwf hn).mono ?_
    rintro e w11 ⟨aT, cT, rfl, hT_11, hb_11⟩
    have hA_11 := hA_10.below hb_11
    have hW_11 := hW_10.below hb_11
    have hG_11 := hG_10.below hb_11
    clear hA_10 hW_10 hG_10
    have hB_11 := hB_10.trans (hb_11.mono hB_10.size)
    clear hB_10
    have hsz_11 := hb_11.size
    clear hb_11
    go_wp2_with fail
    with_reducible refine (C2.out aT _ cT _ hT_11.rd hT_11.wf (by omega)).mono ?_
    rintro e w12 ⟨aH, cH, rfl, hH_12, hb_12⟩
    have hA_12 := hA_11.below hb_12
    have hW_12 := hW_11.below hb_12
    have hG_12 := hG_11.below hb_12
    have hT_12 := hT_11.below hb_12
    clear hA_11 hW_11 hG_11 hT_11
    have hB_12 := hB_11.trans (hb_12.mono hB_11.size)
    clear hB_11
    have hsz_12 := hb_12.size
    clear hb_12
    go_wp2_with fail
    with_reducible refine (eqExtentS_any aH aW _ _ cH cW LL LL _ hH_12.rd hW_12.rd hH_12.wf hW_12.wf (by omega) (by omega)).mono ?_
    rintro e w13 ⟨rfl, hb_13⟩
    rw [eqX_self]
    have hA_13 := hA_12.below hb_13
    have hW_13 := hW_12.below hb_13
    have hG_13 := hG_12.below hb_13
    have hT_13 := hT_12.below hb_13
    have hH_13 := hH_12.below hb_13
    clear hA_12 hW_12 hG_12 hT_12 hH_12
    have hB_13 := hB_12.trans (hb_13.mono hB_12.size)
    clear hB_12
    clear hb_13
    go_wp2_with fail
    with_reducible refine (heldExtentS_any aG _ cG 1 _ (heldRdX hG_13) (by omega) (by omega) (by omega)).mono ?_
    rintro e w' ⟨rfl, rfl⟩
    go_wp2
    go_ret
    exact ⟨rfl, hB_13⟩

theorem FnExactSpaceTake_walk (a : Option Addr) (n c : Nat) (zs : List (Int × Int)) (m : Int) (w : World) (hr : RdX w a n zs) (hwf : WfX zs) (hm : n ≤ maxLen) (hm2 : -9223372036854775808 ≤ m ∧ m ≤ 9223372036854775807) :
    Calls Try.prog 5 #[.slice a n c, .int .i64 m] w (Tr w) := by
  unfold maxLen at hm
  by_cases hn : n ≤ 1048576
  · exact FnExactSpaceTake_core a n c zs _ m _ _ w hr hwf hn (by have := hr.1; omega) hm2 (by have := takeR_length zs m; omega) rfl rfl rfl
  · go_enter Try.func5, Try.ntmps5
    go_wp2_with fail
    refine (szExtentS_no a n c 1048576 _ (by omega) (by omega) (by omega) (by omega)).mono ?_
    rintro e w' ⟨rfl, rfl⟩
    go_wp2
    go_ret
    exact ⟨rfl, Below.refl _ _⟩

end Go.Proofs.Ytemamlgpbcnfjaa
