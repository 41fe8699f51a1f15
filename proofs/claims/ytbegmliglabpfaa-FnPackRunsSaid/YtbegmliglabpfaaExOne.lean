/- Walks of the exact laws of BlockValid, FileValid and BlockSum. -/
import Derived.Test.YtbegmliglabpfaaSum
import Derived.Test.YtbegmliglabpfaaConst
namespace Go.Proofs.Ytbegmliglabpfaa
open Go.RowKit

theorem eqI_self (xs : List Int) : eqI xs xs = true := by simp [eqI]

set_option maxHeartbeats 800000 in
theorem FnExactBlockValid_walk (a : Option Addr) (n c : Nat) (zs : List Int) (w : World) (hr : RdI w a n zs) (hwf : WfI zs) (hm : n ≤ maxLen) :
    Calls Try.prog 4 #[.slice a n c] w (Tr w) := by
  unfold maxLen at hm
  have hl := Lib.hid hr.1
  by_cases hn : n ≤ 1048576
  · go_enter Try.func4, Try.ntmps4
    go_wp2_with fail
    refine (toIntS_any a n c zs _ hr hwf hn).mono ?_
    rintro e w1 ⟨a1, c1, rfl, ho1, hb1⟩
    have hr1 := ho1.rd
    rw [hl.out] at hr1 ⊢
    clear ho1
    go_wp2_with fail
    refine (specBlockValid_any a1 n c1 zs _ hr1 (by omega)).mono ?_
    rintro e w' ⟨rfl, rfl⟩
    go_wp2_with fail
    refine (toIntS_any a n c zs _ (hr.below hb1) hwf hn).mono ?_
    rintro e w2 ⟨a2, c2, rfl, ho2, hb2⟩
    have hr2 := ho2.rd
    rw [hl.out] at hr2 ⊢
    clear ho2
    have hb12 := hb1.trans (hb2.mono hb1.size)
    go_wp2_with fail
    refine (implBlockValid_any a2 n c2 zs _ hr2 (by omega)).mono ?_
    rintro e w' ⟨rfl, rfl⟩
    go_wp2_with fail
    refine (toIntS_any a n c zs _ (hr.below hb12) hwf hn).mono ?_
    rintro e w3 ⟨a3, c3, rfl, ho3, hb3⟩
    have hr3 := ho3.rd
    rw [hl.out] at hr3 ⊢
    clear ho3
    have hb13 := hb12.trans (hb3.mono hb12.size)
    go_wp2_with fail
    refine (eqIntS_any a2 a3 n n c2 c3 zs zs _ (hr2.below hb3) hr3 (by omega) (by omega)).mono ?_
    rintro e w' ⟨rfl, m, rfl⟩
    rw [eqI_self]
    go_wp2
    go_ret
    exact ⟨rfl, below_drewN hb13 m⟩
  · go_enter Try.func4, Try.ntmps4
    go_wp2
    go_ret
    exact ⟨rfl, Below.refl _ _⟩

set_option maxHeartbeats 800000 in
theorem FnExactFileValid_walk (a : Option Addr) (n c : Nat) (zs : List Int) (w : World) (hr : RdI w a n zs) (hwf : WfI zs) (hm : n ≤ maxLen) :
    Calls Try.prog 5 #[.slice a n c] w (Tr w) := by
  unfold maxLen at hm
  have hl := Lib.hid hr.1
  by_cases hn : n ≤ 1048576
  · go_enter Try.func5, Try.ntmps5
    go_wp2_with fail
    refine (toIntS_any a n c zs _ hr hwf hn).mono ?_
    rintro e w1 ⟨a1, c1, rfl, ho1, hb1⟩
    have hr1 := ho1.rd
    rw [hl.out] at hr1 ⊢
    clear ho1
    go_wp2_with fail
    refine (specFileValid_any a1 n c1 zs _ hr1 (by omega)).mono ?_
    rintro e w' ⟨rfl, rfl⟩
    go_wp2_with fail
    refine (toIntS_any a n c zs _ (hr.below hb1) hwf hn).mono ?_
    rintro e w2 ⟨a2, c2, rfl, ho2, hb2⟩
    have hr2 := ho2.rd
    rw [hl.out] at hr2 ⊢
    clear ho2
    have hb12 := hb1.trans (hb2.mono hb1.size)
    go_wp2_with fail
    refine (implFileValid_any a2 n c2 zs _ hr2 (by omega)).mono ?_
    rintro e w' ⟨rfl, rfl⟩
    go_wp2_with fail
    refine (toIntS_any a n c zs _ (hr.below hb12) hwf hn).mono ?_
    rintro e w3 ⟨a3, c3, rfl, ho3, hb3⟩
    have hr3 := ho3.rd
    rw [hl.out] at hr3 ⊢
    clear ho3
    have hb13 := hb12.trans (hb3.mono hb12.size)
    go_wp2_with fail
    refine (eqIntS_any a2 a3 n n c2 c3 zs zs _ (hr2.below hb3) hr3 (by omega) (by omega)).mono ?_
    rintro e w' ⟨rfl, m, rfl⟩
    rw [eqI_self]
    go_wp2
    go_ret
    exact ⟨rfl, below_drewN hb13 m⟩
  · go_enter Try.func5, Try.ntmps5
    go_wp2
    go_ret
    exact ⟨rfl, Below.refl _ _⟩

set_option maxHeartbeats 800000 in
theorem FnExactBlockSum_walk (a : Option Addr) (n c : Nat) (zs : List Int) (w : World) (hr : RdI w a n zs) (hwf : WfI zs) (hm : n ≤ maxLen) :
    Calls Try.prog 6 #[.slice a n c] w (Tr w) := by
  unfold maxLen at hm
  have hl := Lib.hid hr.1
  by_cases hn : n ≤ 1048576
  · go_enter Try.func6, Try.ntmps6
    go_wp2_with fail
    refine (toIntS_any a n c zs _ hr hwf hn).mono ?_
    rintro e w1 ⟨a1, c1, rfl, ho1, hb1⟩
    have hr1 := ho1.rd
    rw [hl.out] at hr1 ⊢
    clear ho1
    go_wp2_with fail
    refine (specBlockSum_any a1 n c1 zs _ hr1 (by omega)).mono ?_
    rintro e w' ⟨rfl, rfl⟩
    go_wp2_with fail
    refine (toIntS_any a n c zs _ (hr.below hb1) hwf hn).mono ?_
    rintro e w2 ⟨a2, c2, rfl, ho2, hb2⟩
    have hr2 := ho2.rd
    rw [hl.out] at hr2 ⊢
    clear ho2
    have hb12 := hb1.trans (hb2.mono hb1.size)
    go_wp2_with fail
    refine (implBlockSum_any a2 n c2 zs _ hr2 (by omega)).mono ?_
    rintro e w' ⟨rfl, rfl⟩
    go_wp2_with fail
    refine (toIntS_any a n c zs _ (hr.below hb12) hwf hn).mono ?_
    rintro e w3 ⟨a3, c3, rfl, ho3, hb3⟩
    have hr3 := ho3.rd
    rw [hl.out] at hr3 ⊢
    clear ho3
    have hb13 := hb12.trans (hb3.mono hb12.size)
    go_wp2_with fail
    refine (eqIntS_any a2 a3 n n c2 c3 zs zs _ (hr2.below hb3) hr3 (by omega) (by omega)).mono ?_
    rintro e w' ⟨rfl, m, rfl⟩
    rw [eqI_self]
    go_wp2
    go_ret
    exact ⟨rfl, below_drewN hb13 m⟩
  · go_enter Try.func6, Try.ntmps6
    go_wp2
    go_ret
    exact ⟨rfl, Below.refl _ _⟩

end Go.Proofs.Ytbegmliglabpfaa
