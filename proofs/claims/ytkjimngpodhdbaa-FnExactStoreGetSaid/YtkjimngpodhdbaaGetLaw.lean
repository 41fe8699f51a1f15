/- Walk of the exact law of StoreGet. -/
import Derived.Test.YtkjimngpodhdbaaStoreGet
import Derived.Test.YtkjimngpodhdbaaMarkH
import Derived.Test.YtkjimngpodhdbaaExMark
import Derived.Test.YtkjimngpodhdbaaTr
namespace Go.Proofs.Ytkjimngpodhdbaa
open Go.RowKit
set_option linter.unusedVariables false

set_option maxHeartbeats 4000000 in
theorem FnExactStoreGet_core (a : Option Addr) (n c : Nat) (zs : List HV) (i : Int) (LL : List Int) (bb : Bool) (w : World) (hr : RdR eltHL w a n zs) (hin : InH w zs) (hwf : WfH zs) (hz1 : (n : Int) + szH zs ≤ 1048576) (hL : LL.length ≤ 100) (hR : getR (valsH zs) i = (LL, bb)) (hwn : (Lit.int .i64 i).wf = true) :
    Calls Try.prog 5 #[.slice a n c, .int .i64 i] w (Tr w) := by
  have hl := Lib.hid hr.1
  have hsn := szH_nonneg zs
  have hs : ∀ x ∈ zs, x.zs.length ≤ 1048576 := by
    intro x hx
    have := szH_mem hx
    omega
  have hn2 : n ≤ 1048576 := by omega
  have hz := szHeldS_any a n c zs 1048576 w hr hwf (by omega) (by omega) (by omega)
  obtain ⟨q, hq⟩ : ∃ q, (1048576 : Int) - (n + szH zs) = q := ⟨_, rfl⟩
  rw [show leftH 1048576 (n + szH zs) = q by unfold leftH; rw [if_neg (by omega), hq]] at hz
  have d0 : decide (q < 0) = false := by simp; omega
  have c1 : ∀ (B : Nat) (a : Option Addr) (c : Nat) (ys : List HV) (w : World), ys.length = n → valsH ys = valsH zs → OwnH w B a c ys → Calls Try.prog 14 #[.slice a n c, .int .i64 i] w (RetIB w LL bb) := by
    intro B a c ys w hyl hyv ho
    have hsz := vals_size hyv hs
    have := specStoreGet_any a n c ys i w (ho.rdN hyl) ho.inn (fun x hx => by have := hsz x hx; omega) (by omega)
    rwa [hyv, hR] at this
  have c2 : ∀ (B : Nat) (a : Option Addr) (c : Nat) (ys : List HV) (w : World), ys.length = n → valsH ys = valsH zs → OwnH w B a c ys → Calls Try.prog 15 #[.slice a n c, .int .i64 i] w (RetIB w LL bb) := by
    intro B a c ys w hyl hyv ho
    have hsz := vals_size hyv hs
    have hcap := ho.row.cap
    rw [hyl] at hcap
    unfold maxLen at hcap
    have := implStoreGet_any a n c ys i w (ho.rdN hyl) ho.inn (fun x hx => by have := hsz x hx; omega) hcap.1 (by omega) hwn
    rwa [hyv, hR] at this
  have C1 := Lib.hid c1
  have C2 := Lib.hid c2
  have HS := Lib.hid hs
  have HW := Lib.hid hwf
  have HI := Lib.hid hin
  have HR0 := Lib.hid hr
  have HSZ : Hid (∀ ys : List HV, valsH ys = valsH zs → szH ys ≤ 1048576) := Lib.hid (fun ys h => by rw [szH_vals h]; omega)
  have tq : (bb != bb) = false := by simp
  have hqq : ((1 + (LL.length : Int)) != 1 + (LL.length : Int)) = false := by simp
  clear c1 c2 hs hq hz1 hsn hR hwf
  go_enter Try.func5, Try.ntmps5
  go_wp2_with fail
  with_reducible refine hz.mono ?_
  rintro e w1 ⟨rfl, hB_1⟩
  have hr_1 := hr.below hB_1
  have hI_1 := HI.out.below hB_1
  clear hz hin hr
  have K := toHeldS_any a n c zs w1 hr_1 hI_1 HW.out hn2 HS.out
  go_wp2_with fail
  with_reducible refine (K).mono ?_
  rintro e w2 ⟨yS, aS, cS, rfl, hylS, hyvS, hoS_2, hb⟩
  rw [hl.out]
  have hYS := Lib.hid hyvS
  have hNS : Hid (yS.length = n) := Lib.hid (hylS.trans hl.out)
  clear hylS hyvS K
  have hr_2 := hr_1.below hb
  have hI_2 := hI_1.below hb
  have hB_2 := hB_1.trans (hb.mono hB_1.size)
  have hs_2 := hb.size
  clear hb hr_1 hI_1 hB_1
  have K := C1.out _ aS cS yS w2 hNS.out hYS.out hoS_2
  go_wp2_with fail
  with_reducible refine (K).mono ?_
  rintro e w3 ⟨aW, cW, rfl, hW_3, hb⟩
  clear K
  have hr_3 := hr_2.below hb
  have hI_3 := hI_2.below hb
  have hoS_3 := hoS_2.below hb
  have hB_3 := hB_2.trans (hb.mono hB_2.size)
  have hs_3 := hb.size
  clear hb hr_2 hI_2 hoS_2 hB_2
  clear hoS_3
  have HLOW : Hid (w.heap.size ≤ w3.heap.size) := Lib.hid hB_3.size
  have hWlt : ∀ k, (Value.slice aW LL.length cW).ownBlock = some k → k < w3.heap.size := fun k hk => (hW_3.2.lt k hk).2
  have K := toHeldS_any a n c zs w3 hr_3 hI_3 HW.out hn2 HS.out
  go_wp2_with fail
  with_reducible refine (K).mono ?_
  rintro e w4 ⟨yX, aX, cX, rfl, hylX, hyvX, hoX_4, hb⟩
  rw [hl.out]
  have hYX := Lib.hid hyvX
  have hNX : Hid (yX.length = n) := Lib.hid (hylX.trans hl.out)
  clear hylX hyvX K
  have hr_4 := hr_3.below hb
  have hI_4 := hI_3.below hb
  have hW_4 := hW_3.below hb
  have hB_4 := hB_3.trans (hb.mono hB_3.size)
  have hs_4 := hb.size
  clear hb hr_3 hI_3 hW_3 hB_3
  have hXlt : ∀ k, (Value.slice aX n cX).ownBlock = some k → k < w4.heap.size := fun k hk => (World.ownsRow.lt hoX_4.row k (by rw [hNX.out]; exact hk)).2
  have hXin : ∀ x ∈ yX, ∀ k, (Value.slice x.ad x.zs.length x.cp).ownBlock = some k → k < w4.heap.size := fun x hx k hk => (World.ownsRow.lt (hoX_4.ins x hx).2 k hk).2
  have K := C2.out _ aX cX yX w4 hNX.out hYX.out hoX_4
  go_wp2_with fail
  with_reducible refine (K).mono ?_
  rintro e w5 ⟨aG, cG, rfl, hG_5, hb⟩
  clear K
  have hr_5 := hr_4.below hb
  have hI_5 := hI_4.below hb
  have hW_5 := hW_4.below hb
  have hoX_5 := hoX_4.below hb
  have hB_5 := hB_4.trans (hb.mono hB_4.size)
  have hs_5 := hb.size
  clear hb hr_4 hI_4 hW_4 hoX_4 hB_4
  have hGge : ∀ k, (Value.slice aG LL.length cG).ownBlock = some k → w4.heap.size ≤ k := fun k hk => (hG_5.2.lt k hk).1
  have K := eqIntS_any aG aW _ _ cG cW LL LL w5 hG_5.rd hW_5.rd (by omega) (by omega)
  rw [eqI_self] at K
  go_wp2_with fail
  with_reducible refine (K).mono ?_
  rintro e w6 ⟨rfl, q, hq⟩
  have hb : Below w5.heap.size w5 w6 := by rw [hq]; exact below_drewN (Below.refl _ _) _
  clear hq K
  have hr_6 := hr_5.below hb
  have hI_6 := hI_5.below hb
  have hW_6 := hW_5.below hb
  have hoX_6 := hoX_5.below hb
  have hG_6 := hG_5.below hb
  have hB_6 := hB_5.trans (hb.mono hB_5.size)
  have hs_6 := hb.size
  clear hb hr_5 hI_5 hW_5 hoX_5 hG_5 hB_5
  have K := toHeldS_any a n c zs w6 hr_6 hI_6 HW.out hn2 HS.out
  go_wp2_with fail
  with_reducible refine (K).mono ?_
  rintro e w7 ⟨yY, aY, cY, rfl, hylY, hyvY, hoY_7, hb⟩
  rw [hl.out]
  have hYY := Lib.hid hyvY
  have hNY : Hid (yY.length = n) := Lib.hid (hylY.trans hl.out)
  clear hylY hyvY K
  have hr_7 := hr_6.below hb
  have hI_7 := hI_6.below hb
  have hW_7 := hW_6.below hb
  have hoX_7 := hoX_6.below hb
  have hG_7 := hG_6.below hb
  have hB_7 := hB_6.trans (hb.mono hB_6.size)
  have hs_7 := hb.size
  clear hb hr_6 hI_6 hW_6 hoX_6 hG_6 hB_6
  have K := eqHeldS_self aX aY n cX cY yX yY (by rw [hYX.out, hYY.out]) w7 (hoX_7.rdN hNX.out) (hoY_7.rdN hNY.out) hoX_7.inn hoY_7.inn (by omega) (fun x hx => by have := vals_size hYX.out HS.out x hx; omega)
  go_wp2_with fail
  with_reducible refine (K).mono ?_
  rintro e w8 ⟨rfl, hb⟩
  clear K
  have hr_8 := hr_7.below hb
  have hI_8 := hI_7.below hb
  have hW_8 := hW_7.below hb
  have hoX_8 := hoX_7.below hb
  have hG_8 := hG_7.below hb
  have hB_8 := hB_7.trans (hb.mono hB_7.size)
  have hs_8 := hb.size
  clear hb hr_7 hI_7 hW_7 hoX_7 hG_7 hoY_7 hB_7
  have K := markHeldS_any w3.heap.size w4.heap.size aX cX n yX 1 w8 hoX_8 hNX.out hXlt hXin (by have := hs_5; have := hs_6; have := hs_7; have := hs_8; omega) (by have := hs_4; have := hs_5; have := hs_6; have := hs_7; have := hs_8; omega) hn2 (HSZ.out yX hYX.out)
  clear hXlt hXin
  go_wp2_with fail
  with_reducible refine K.mono ?_
  rintro e w9 ⟨k1, rfl, hk1, hwi⟩
  have dk : decide (k1 < 0) = false := by simp; omega
  have hB_9 := hB_8.trans (hwi.below (B := w.heap.size) HLOW.out (by have := hB_8.size; omega))
  have hW_9 := hW_8.within hwi (fun k hk => .inl (hWlt k hk))
  have hG_9 := hG_8.within hwi (fun k hk => .inr (by have := hGge k hk;  omega))
  have hs_9 := hwi.size
  clear hwi hB_8 hW_8 hG_8 hoX_8 hr_8 hI_8 K hk1
  have K := eqIntS_any aG aW _ _ cG cW LL LL w9 hG_9.rd hW_9.rd (by omega) (by omega)
  rw [eqI_self] at K
  go_wp2_with fail
  with_reducible refine (K).mono ?_
  rintro e w10 ⟨rfl, q, hq⟩
  have hb : Below w9.heap.size w9 w10 := by rw [hq]; exact below_drewN (Below.refl _ _) _
  clear hq K
  have hW_10 := hW_9.below hb
  have hG_10 := hG_9.below hb
  have hB_10 := hB_9.trans (hb.mono hB_9.size)
  have hs_10 := hb.size
  clear hb hW_9 hG_9 hB_9
  have K := markIntS_any _ aG cG LL 1 w10 hG_10 (by omega) (by omega) (by omega)
  go_wp2_with fail
  with_reducible refine K.mono ?_
  rintro e w11 ⟨rfl, hG_11, hg⟩
  have hW_11 := hW_10.apartI hg (fun k hk r hr => by have := hWlt k hk; have := hGge r hr; have := hs_4; omega)
  have hB_11 := hB_10.grown hg hB_10.size (fun r hr => by have := hGge r hr; have := HLOW.out; have := hs_4; omega)
  have hr_11 := HR0.out.below hB_11
  have hI_11 := HI.out.below hB_11
  clear K hg hW_10 hG_10 hB_10
  have K := heldIntS_any aG _ cG 1 w11 (heldRd hG_11) (by omega) (by omega) (by omega)
  go_wp2_with fail
  with_reducible refine K.mono ?_
  rintro e w' ⟨rfl, rfl⟩
  clear K
  have K := toHeldS_any a n c zs w11 hr_11 hI_11 HW.out hn2 HS.out
  go_wp2_with fail
  with_reducible refine (K).mono ?_
  rintro e w12 ⟨yT, aT, cT, rfl, hylT, hyvT, hoT_12, hb⟩
  rw [hl.out]
  have hYT := Lib.hid hyvT
  have hNT : Hid (yT.length = n) := Lib.hid (hylT.trans hl.out)
  clear hylT hyvT K
  have hr_12 := hr_11.below hb
  have hI_12 := hI_11.below hb
  have hW_12 := hW_11.below hb
  have hG_12 := hG_11.below hb
  have hB_12 := hB_11.trans (hb.mono hB_11.size)
  have hs_12 := hb.size
  clear hb hr_11 hI_11 hW_11 hG_11 hB_11
  have K := C2.out _ aT cT yT w12 hNT.out hYT.out hoT_12
  go_wp2_with fail
  with_reducible refine (K).mono ?_
  rintro e w13 ⟨aH, cH, rfl, hH_13, hb⟩
  clear K
  have hr_13 := hr_12.below hb
  have hI_13 := hI_12.below hb
  have hW_13 := hW_12.below hb
  have hG_13 := hG_12.below hb
  have hoT_13 := hoT_12.below hb
  have hB_13 := hB_12.trans (hb.mono hB_12.size)
  have hs_13 := hb.size
  clear hb hr_12 hI_12 hW_12 hG_12 hoT_12 hB_12
  have K := eqIntS_any aH aW _ _ cH cW LL LL w13 hH_13.rd hW_13.rd (by omega) (by omega)
  rw [eqI_self] at K
  go_wp2_with fail
  with_reducible refine (K).mono ?_
  rintro e w14 ⟨rfl, q, hq⟩
  have hb : Below w13.heap.size w13 w14 := by rw [hq]; exact below_drewN (Below.refl _ _) _
  clear hq K
  have hr_14 := hr_13.below hb
  have hI_14 := hI_13.below hb
  have hW_14 := hW_13.below hb
  have hG_14 := hG_13.below hb
  have hoT_14 := hoT_13.below hb
  have hH_14 := hH_13.below hb
  have hB_14 := hB_13.trans (hb.mono hB_13.size)
  have hs_14 := hb.size
  clear hb hr_13 hI_13 hW_13 hG_13 hoT_13 hH_13 hB_13
  have K := heldIntS_any aG _ cG 1 w14 (heldRd hG_14) (by omega) (by omega) (by omega)
  go_wp2_with fail
  with_reducible refine K.mono ?_
  rintro e w' ⟨rfl, rfl⟩
  clear K
  go_wp2
  go_ret
  exact ⟨rfl, hB_14⟩

set_option maxHeartbeats 1000000 in
theorem FnExactStoreGet_walk (a : Option Addr) (n c : Nat) (zs : List HV) (i : Int) (w : World) (hri : RdR eltHL w a n zs ∧ InH w zs) (hwf : WfH zs) (hm : n ≤ maxLen) (hwn0 : -9223372036854775808 ≤ i ∧ i ≤ 9223372036854775807) :
    Calls Try.prog 5 #[.slice a n c, .int .i64 i] w (Tr w) := by
  have hwn : (Lit.int .i64 i).wf = true := WalkArith.wf_i64 (by omega)
  clear hwn0
  obtain ⟨hr, hin⟩ := hri
  by_cases hbig : 4611686018427387904 < n
  · unfold maxLen at hm
    have hz := szHeldS_big a n c 1048576 w (by omega) (by omega)
    go_enter Try.func5, Try.ntmps5
    go_wp2_with fail
    with_reducible refine hz.mono ?_
    rintro e w1 ⟨rfl, hb⟩
    go_wp2
    go_ret
    exact ⟨rfl, hb⟩
  have hsn := szH_nonneg zs
  by_cases hn : (1048576 : Int) - (n + szH zs) < 0
  · have hz := szHeldS_any a n c zs 1048576 w hr hwf (by omega) (by omega) (by omega)
    rw [show leftH 1048576 (n + szH zs) = -1 by unfold leftH; rw [if_pos hn]] at hz
    go_enter Try.func5, Try.ntmps5
    go_wp2_with fail
    with_reducible refine hz.mono ?_
    rintro e w1 ⟨rfl, hb⟩
    go_wp2
    go_ret
    exact ⟨rfl, hb⟩
  · exact FnExactStoreGet_core a n c zs i (getR (valsH zs) i).1 (getR (valsH zs) i).2 w hr hin hwf (by omega) (Nat.le_trans (getR_len (valsH zs) i) (by omega)) rfl hwn

end Go.Proofs.Ytkjimngpodhdbaa
