/- Walk of the exact law of QuotasValid. -/
import Derived.Test.YtcojgoibelgleaaDoorQuota
import Derived.Test.YtcojgoibelgleaaDoorQuotaValid
import Derived.Test.YtcojgoibelgleaaDoorTr
namespace Go.Proofs.YtcojgoibelgleaaDoor
open Go.RowKit
set_option linter.unusedVariables false

theorem OwnR.rdN {α : Type} {E : Elt α} {w : World} {B : Nat} {a : Option Addr} {c n : Nat} {xs : List α} (h : OwnR E w B a c xs) (hn : xs.length = n) : RdR E w a n xs := hn ▸ h.rd

set_option maxHeartbeats 1000000 in
theorem FnExactQuotasValid_walk (a : Option Addr) (n c : Nat) (zs : List (ByteArray × Int)) (w : World) (hr : RdR eltQL w a n zs) (hwf : WfQ zs) (hm : n ≤ maxLen) (hM : MLen w) :
    Calls Tryd.prog 4 #[.slice a n c] w (Tr w) := by
  have hl := Lib.hid hr.1
  by_cases hbig : 4611686018427387904 < n
  · unfold maxLen at hm
    have hz := szQuotaS_big a n c 1048576 w (by omega) (by omega)
    go_enter Tryd.func4, Tryd.ntmps4
    go_wp2_with fail
    with_reducible refine hz.mono ?_
    rintro e w1 ⟨rfl, hb⟩
    go_wp2
    go_ret
    exact ⟨rfl, hb⟩
  have hz := szQuotaS_any a n c zs 1048576 w hr hwf (by omega) (by omega) (by omega)
  have hsn := szQ_nonneg zs
  by_cases hn : (1048576 : Int) - (n + szQ zs) < 0
  · rw [show leftQ 1048576 (n + szQ zs) = -1 by unfold leftQ; rw [if_pos hn]] at hz
    go_enter Tryd.func4, Tryd.ntmps4
    go_wp2_with fail
    with_reducible refine hz.mono ?_
    rintro e w1 ⟨rfl, hb⟩
    go_wp2
    go_ret
    exact ⟨rfl, hb⟩
  · have hs : ∀ x ∈ zs, x.1.size ≤ 1073741824 := by
      intro x hx
      have := szQ_mem hx
      omega
    have HS := Lib.hid hs
    obtain ⟨q, hq⟩ : ∃ q, (1048576 : Int) - (n + szQ zs) = q := ⟨_, rfl⟩
    rw [show leftQ 1048576 (n + szQ zs) = q by unfold leftQ; rw [if_neg hn, hq]] at hz
    have hn2 : n ≤ 1048576 := by omega
    have d0 : decide (q < 0) = false := by simp; omega
    obtain ⟨v, hv⟩ : ∃ v, quotasV zs = v := ⟨_, rfl⟩
    have HV := Lib.hid hv
    have tq : (v != v) = false := by simp
    clear hn hq hs hv
    go_enter Tryd.func4, Tryd.ntmps4
    go_wp2_with fail
    with_reducible refine hz.mono ?_
    rintro e w1 ⟨rfl, hb⟩
    have hb1 := hb
    have hr1 := hr.below hb
    clear hb hz
    go_wp2_with fail
    with_reducible refine (toQuotaS_any a n c zs _ hr1 hn2).mono ?_
    rintro e w2 ⟨a2, c2, rfl, ho2, hb⟩
    have hb2 := hb1.trans (hb.mono hb1.size)
    have hr2 := hr1.below hb
    have hA2 := ho2.rdN hl.out
    rw [hl.out]
    clear hb hr1 hb1 ho2
    go_wp2_with fail
    with_reducible refine (specQuotasValid_any a2 n c2 zs _ hA2 HS.out (by omega)).mono ?_
    rintro e w3 ⟨rfl, hb⟩
    have hb3 := hb2.trans (hb.mono hb2.size)
    have hr3 := hr2.below hb
    rw [HV.out]
    clear hb hr2 hb2 hA2
    go_wp2_with fail
    with_reducible refine (toQuotaS_any a n c zs _ hr3 hn2).mono ?_
    rintro e w4 ⟨a4, c4, rfl, ho4, hb⟩
    have hb4 := hb3.trans (hb.mono hb3.size)
    have hr4 := hr3.below hb
    have hA4 := ho4.rdN hl.out
    rw [hl.out]
    clear hb hr3 hb3 ho4
    go_wp2_with fail
    with_reducible refine (implQuotasValid_any a4 n c4 zs _ hA4 (hM.below hb4) HS.out (by omega)).mono ?_
    rintro e w5 ⟨rfl, hb⟩
    have hb5 := hb4.trans (hb.mono hb4.size)
    have hr5 := hr4.below hb
    have hA5 := hA4.below hb
    rw [HV.out]
    clear hb hr4 hb4 hA4
    go_wp2_with fail
    with_reducible refine (toQuotaS_any a n c zs _ hr5 hn2).mono ?_
    rintro e w6 ⟨a6, c6, rfl, ho6, hb⟩
    have hb6 := hb5.trans (hb.mono hb5.size)
    have hA6 := hA5.below hb
    have hC6 := ho6.rdN hl.out
    rw [hl.out]
    clear hb hr5 hb5 ho6 hA5
    go_wp2_with fail
    with_reducible refine (eqQuotaS_self a4 a6 n c4 c6 zs _ hA6 hC6 (by omega)).mono ?_
    rintro e w7 ⟨rfl, hb⟩
    have hb7 := hb6.trans (hb.mono hb6.size)
    go_wp2
    go_ret
    exact ⟨rfl, hb7⟩

end Go.Proofs.YtcojgoibelgleaaDoor
