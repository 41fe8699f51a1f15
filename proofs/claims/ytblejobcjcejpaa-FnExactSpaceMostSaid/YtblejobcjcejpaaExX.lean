/- Walks of the exact laws of SpaceValid, SpaceFree and SpaceMost. -/
import Derived.Test.YtblejobcjcejpaaExtent
import Derived.Test.YtblejobcjcejpaaEqX
import Derived.Test.YtblejobcjcejpaaFreeMost
import Derived.Test.YtblejobcjcejpaaTr
namespace Go.Proofs.Ytblejobcjcejpaa
open Go.RowKit
set_option linter.unusedVariables false

theorem eqX_self (xs : List (Int × Int)) : eqX xs xs = true := by simp [eqX]

set_option maxHeartbeats 1000000 in
theorem FnExactSpaceValid_walk (a : Option Addr) (n c : Nat) (zs : List (Int × Int)) (w : World) (hr : RdX w a n zs) (hwf : WfX zs) (hm : n ≤ maxLen) :
    Calls Try.prog 3 #[.slice a n c] w (Tr w) := by
  unfold maxLen at hm
  have hl := Lib.hid hr.1
  by_cases hn : n ≤ 1048576
  · go_enter Try.func3, Try.ntmps3
    go_wp2_with fail
    refine (szExtentS_ok a n c 1048576 _ (by omega) (by omega) (by omega)).mono ?_
    rintro e w' ⟨rfl, rfl⟩
    go_wp2_with fail
    refine (toExtentS_any a n c zs _ hr hwf hn).mono ?_
    rintro e w1 ⟨a1, c1, rfl, ho1, hb1⟩
    have hr1 := ho1.rd
    rw [hl.out] at hr1 ⊢
    clear ho1
    go_wp2_with fail
    refine (specSpaceValid_any a1 n c1 zs _ hr1 hwf (by omega)).mono ?_
    rintro e w1' ⟨rfl, hb1'⟩
    have hb11 := hb1.trans (hb1'.mono hb1.size)
    clear hr1 hb1'
    go_wp2_with fail
    refine (toExtentS_any a n c zs _ (hr.below hb11) hwf hn).mono ?_
    rintro e w2 ⟨a2, c2, rfl, ho2, hb2⟩
    have hr2 := ho2.rd
    rw [hl.out] at hr2 ⊢
    clear ho2
    have hb12 := hb11.trans (hb2.mono hb11.size)
    go_wp2_with fail
    refine (implSpaceValid_any a2 n c2 zs _ hr2 hwf (by omega)).mono ?_
    rintro e w2' ⟨rfl, hb2'⟩
    have hr2' := hr2.below hb2'
    have hb22 := hb12.trans (hb2'.mono hb12.size)
    have tq : (spaceV zs != spaceV zs) = false := by simp
    clear hr2 hb2'
    go_wp2_with fail
    refine (toExtentS_any a n c zs _ (hr.below hb22) hwf hn).mono ?_
    rintro e w3 ⟨a3, c3, rfl, ho3, hb3⟩
    have hr3 := ho3.rd
    rw [hl.out] at hr3 ⊢
    clear ho3
    have hb13 := hb22.trans (hb3.mono hb22.size)
    go_wp2_with fail
    refine (eqExtentS_any a2 a3 n n c2 c3 zs zs _ (hr2'.below hb3) hr3 hwf hwf (by omega) (by omega)).mono ?_
    rintro e w4 ⟨rfl, hb4⟩
    have hb14 := hb13.trans (hb4.mono hb13.size)
    rw [eqX_self]
    clear hb4 tq
    go_wp2
    go_ret
    exact ⟨rfl, hb14⟩
  · go_enter Try.func3, Try.ntmps3
    go_wp2_with fail
    refine (szExtentS_no a n c 1048576 _ (by omega) (by omega) (by omega) (by omega)).mono ?_
    rintro e w' ⟨rfl, rfl⟩
    go_wp2
    go_ret
    exact ⟨rfl, Below.refl _ _⟩

set_option maxHeartbeats 1000000 in
theorem FnExactSpaceFree_walk (a : Option Addr) (n c : Nat) (zs : List (Int × Int)) (w : World) (hr : RdX w a n zs) (hwf : WfX zs) (hm : n ≤ maxLen) :
    Calls Try.prog 5 #[.slice a n c] w (Tr w) := by
  unfold maxLen at hm
  have hl := Lib.hid hr.1
  by_cases hn : n ≤ 1048576
  · go_enter Try.func5, Try.ntmps5
    go_wp2_with fail
    refine (szExtentS_ok a n c 1048576 _ (by omega) (by omega) (by omega)).mono ?_
    rintro e w' ⟨rfl, rfl⟩
    go_wp2_with fail
    refine (toExtentS_any a n c zs _ hr hwf hn).mono ?_
    rintro e w1 ⟨a1, c1, rfl, ho1, hb1⟩
    have hr1 := ho1.rd
    rw [hl.out] at hr1 ⊢
    clear ho1
    go_wp2_with fail
    refine (specSpaceFree_any a1 n c1 zs _ hr1 hwf (by omega)).mono ?_
    rintro e w1' ⟨rfl, hb1'⟩
    have hb11 := hb1.trans (hb1'.mono hb1.size)
    clear hr1 hb1'
    go_wp2_with fail
    refine (toExtentS_any a n c zs _ (hr.below hb11) hwf hn).mono ?_
    rintro e w2 ⟨a2, c2, rfl, ho2, hb2⟩
    have hr2 := ho2.rd
    rw [hl.out] at hr2 ⊢
    clear ho2
    have hb12 := hb11.trans (hb2.mono hb11.size)
    go_wp2_with fail
    refine (implSpaceFree_any a2 n c2 zs _ hr2 hwf (by omega)).mono ?_
    rintro e w2' ⟨rfl, hb2'⟩
    have hr2' := hr2.below hb2'
    have hb22 := hb12.trans (hb2'.mono hb12.size)
    have tq : (freeV zs != freeV zs) = false := by simp
    clear hr2 hb2'
    go_wp2_with fail
    refine (toExtentS_any a n c zs _ (hr.below hb22) hwf hn).mono ?_
    rintro e w3 ⟨a3, c3, rfl, ho3, hb3⟩
    have hr3 := ho3.rd
    rw [hl.out] at hr3 ⊢
    clear ho3
    have hb13 := hb22.trans (hb3.mono hb22.size)
    go_wp2_with fail
    refine (eqExtentS_any a2 a3 n n c2 c3 zs zs _ (hr2'.below hb3) hr3 hwf hwf (by omega) (by omega)).mono ?_
    rintro e w4 ⟨rfl, hb4⟩
    have hb14 := hb13.trans (hb4.mono hb13.size)
    rw [eqX_self]
    clear hb4 tq
    go_wp2
    go_ret
    exact ⟨rfl, hb14⟩
  · go_enter Try.func5, Try.ntmps5
    go_wp2_with fail
    refine (szExtentS_no a n c 1048576 _ (by omega) (by omega) (by omega) (by omega)).mono ?_
    rintro e w' ⟨rfl, rfl⟩
    go_wp2
    go_ret
    exact ⟨rfl, Below.refl _ _⟩

set_option maxHeartbeats 1000000 in
theorem FnExactSpaceMost_walk (a : Option Addr) (n c : Nat) (zs : List (Int × Int)) (w : World) (hr : RdX w a n zs) (hwf : WfX zs) (hm : n ≤ maxLen) :
    Calls Try.prog 6 #[.slice a n c] w (Tr w) := by
  unfold maxLen at hm
  have hl := Lib.hid hr.1
  by_cases hn : n ≤ 1048576
  · go_enter Try.func6, Try.ntmps6
    go_wp2_with fail
    refine (szExtentS_ok a n c 1048576 _ (by omega) (by omega) (by omega)).mono ?_
    rintro e w' ⟨rfl, rfl⟩
    go_wp2_with fail
    refine (toExtentS_any a n c zs _ hr hwf hn).mono ?_
    rintro e w1 ⟨a1, c1, rfl, ho1, hb1⟩
    have hr1 := ho1.rd
    rw [hl.out] at hr1 ⊢
    clear ho1
    go_wp2_with fail
    refine (specSpaceMost_any a1 n c1 zs _ hr1 hwf (by omega)).mono ?_
    rintro e w1' ⟨rfl, hb1'⟩
    have hb11 := hb1.trans (hb1'.mono hb1.size)
    clear hr1 hb1'
    go_wp2_with fail
    refine (toExtentS_any a n c zs _ (hr.below hb11) hwf hn).mono ?_
    rintro e w2 ⟨a2, c2, rfl, ho2, hb2⟩
    have hr2 := ho2.rd
    rw [hl.out] at hr2 ⊢
    clear ho2
    have hb12 := hb11.trans (hb2.mono hb11.size)
    go_wp2_with fail
    refine (implSpaceMost_any a2 n c2 zs _ hr2 hwf (by omega)).mono ?_
    rintro e w2' ⟨rfl, hb2'⟩
    have hr2' := hr2.below hb2'
    have hb22 := hb12.trans (hb2'.mono hb12.size)
    have tq : (mostV zs != mostV zs) = false := by simp
    clear hr2 hb2'
    go_wp2_with fail
    refine (toExtentS_any a n c zs _ (hr.below hb22) hwf hn).mono ?_
    rintro e w3 ⟨a3, c3, rfl, ho3, hb3⟩
    have hr3 := ho3.rd
    rw [hl.out] at hr3 ⊢
    clear ho3
    have hb13 := hb22.trans (hb3.mono hb22.size)
    go_wp2_with fail
    refine (eqExtentS_any a2 a3 n n c2 c3 zs zs _ (hr2'.below hb3) hr3 hwf hwf (by omega) (by omega)).mono ?_
    rintro e w4 ⟨rfl, hb4⟩
    have hb14 := hb13.trans (hb4.mono hb13.size)
    rw [eqX_self]
    clear hb4 tq
    go_wp2
    go_ret
    exact ⟨rfl, hb14⟩
  · go_enter Try.func6, Try.ntmps6
    go_wp2_with fail
    refine (szExtentS_no a n c 1048576 _ (by omega) (by omega) (by omega) (by omega)).mono ?_
    rintro e w' ⟨rfl, rfl⟩
    go_wp2
    go_ret
    exact ⟨rfl, Below.refl _ _⟩

end Go.Proofs.Ytblejobcjcejpaa
