/- Walk of the exact law of FileLoad. -/
import Derived.Test.YtkjimngpodhdbaaFileLoad
import Derived.Test.YtkjimngpodhdbaaMarkH
import Derived.Test.YtkjimngpodhdbaaExMark
import Derived.Test.YtkjimngpodhdbaaTr
namespace Go.Proofs.Ytkjimngpodhdbaa
open Go.RowKit
set_option linter.unusedVariables false

set_option maxHeartbeats 4000000 in
theorem FnExactFileLoad_core (a : Option Addr) (n c : Nat) (zs : List HV) (a' : Option Addr) (n' c' : Nat) (is : List Int) (LL : List Int) (bb : Bool) (w : World) (hr : RdR eltHL w a n zs) (hin : InH w zs) (hwf : WfH zs) (hz1 : (n : Int) + szH zs ≤ 1048576) (hi : RdI w a' n' is) (hwi : WfI is) (hni : n' ≤ 1048576) (hL : LL.length ≤ 100) (hR : loadR (valsH zs) is = (LL, bb)) :
    Calls Try.prog 6 #[.slice a n c, .slice a' n' c'] w (Tr w) := by
  have hl := Lib.hid hr.1
  have hli := Lib.hid hi.1
  have HWI := Lib.hid hwi
  have hsn := szH_nonneg zs
  have hs : ∀ x ∈ zs, x.zs.length ≤ 1048576 := by
    intro x hx
    have := szH_mem hx
    omega
  have hn2 : n ≤ 1048576 := by omega
  have hz := szHeldS_any a n c zs 1048576 w hr hwf (by omega) (by omega) (by omega)
  obtain ⟨q, hq⟩ : ∃ q, (1048576 : Int) - (n + szH zs) = q := ⟨_, rfl⟩
  rw [show leftH 1048576 (n + szH zs) = q by unfold leftH; rw [if_neg (by omega), hq]] at hz
  have d0 : decide (q < 0) = false := by simp; omega
  have c1 : ∀ (B B' : Nat) (a : Option Addr) (c : Nat) (ys : List HV) (b : Option Addr) (d : Nat) (w : World), ys.length = n → valsH ys = valsH zs → OwnH w B a c ys → OwnI w B' b d is → Calls Try.prog 20 #[.slice a n c, .slice b n' d] w (RetIB w LL bb) := by
    intro B B' a c ys b d w hyl hyv ho hj
    have hsz := vals_size hyv hs
    have hrd := hj.rd
    rw [hli.out] at hrd
    have := specFileLoad_any a n c ys b n' d is w (ho.rdN hyl) ho.inn (fun x hx => by have := hsz x hx; omega) (by omega) hrd (by omega)
    rwa [hyv, hR] at this
  have c2 : ∀ (B B' : Nat) (a : Option Addr) (c : Nat) (ys : List HV) (b : Option Addr) (d : Nat) (w : World), ys.length = n → valsH ys = valsH zs → OwnH w B a c ys → OwnI w B' b d is → Calls Try.prog 22 #[.slice a n c, .slice b n' d] w (RetIB w LL bb) := by
    intro B B' a c ys b d w hyl hyv ho hj
    have hsz := vals_size hyv hs
    have hcap := ho.row.cap
    rw [hyl] at hcap
    unfold maxLen at hcap
    have hrd := hj.rd
    rw [hli.out] at hrd
    have := implFileLoad_any a n c ys b n' d is w (ho.rdN hyl) ho.inn (fun x hx => by have := hsz x hx; omega) hcap.1 (by omega) hrd HWI.out (by omega)
    rwa [hyv, hR] at this
  have C1 := Lib.hid c1
  have C2 := Lib.hid c2
  have HS := Lib.hid hs
  have HW := Lib.hid hwf
  have HI := Lib.hid hin
  have HR0 := Lib.hid hr
  have HSZ : Hid (∀ ys : List HV, valsH ys = valsH zs → szH ys ≤ 1048576) := Lib.hid (fun ys h => by rw [szH_vals h]; omega)
  have tq : (bb != bb) = false := by simp
  have hqq : ((1 + (LL.length : Int)) != 1 + (LL.length : Int)) = false := by simp
  clear c1 c2 hs hq hz1 hsn hR hwf
  have hi0 := Lib.hid hi
  have t0 : decide ((1048576 : Int) < (n' : Int)) = false := by simp; omega
  go_enter Try.func6, Try.ntmps6
  go_wp2_with fail
  with_reducible refine hz.mono ?_
  rintro e w1 ⟨rfl, hB_1⟩
  have hr_1 := hr.below hB_1
  have hI_1 := HI.out.below hB_1
  clear hz hin hr
  have hi_1 := hi.below hB_1
  clear hi
  have K := toHeldS_any a n c zs w1 hr_1 hI_1 HW.out hn2 HS.out
  go_wp2_with fail
  with_reducible refine (K).mono ?_
  rintro e w2 ⟨yS, aS, cS, rfl, hylS, hyvS, hoS_2, hb⟩
  rw [hl.out]
  have hYS := Lib.hid hyvS
  have hNS : Hid (yS.length = n) := Lib.hid (hylS.trans hl.out)
  clear hylS hyvS K
  have hr_2 := hr_1.below hb
  have hI_2 := hI_1.below hb
  have hi_2 := hi_1.below hb
  have hB_2 := hB_1.trans (hb.mono hB_1.size)
  have hs_2 := hb.size
  clear hb hr_1 hI_1 hi_1 hB_1
  have K := toIntS_any a' n' c' is w2 hi_2 HWI.out hni
  go_wp2_with fail
  with_reducible refine (K).mono ?_
  rintro e w3 ⟨bS, dS, rfl, hjS_3, hb⟩
  rw [hli.out]
  clear K
  have hr_3 := hr_2.below hb
  have hI_3 := hI_2.below hb
  have hi_3 := hi_2.below hb
  have hoS_3 := hoS_2.below hb
  have hB_3 := hB_2.trans (hb.mono hB_2.size)
  have hs_3 := hb.size
  clear hb hr_2 hI_2 hi_2 hoS_2 hB_2
  have K := C1.out _ _ aS cS yS bS dS w3 hNS.out hYS.out hoS_3 hjS_3
  go_wp2_with fail
  with_reducible refine (K).mono ?_
  rintro e w4 ⟨aW, cW, rfl, hW_4, hb⟩
  clear K
  have hr_4 := hr_3.below hb
  have hI_4 := hI_3.below hb
  have hi_4 := hi_3.below hb
  have hoS_4 := hoS_3.below hb
  have hjS_4 := hjS_3.below hb
  have hB_4 := hB_3.trans (hb.mono hB_3.size)
  have hs_4 := hb.size
  clear hb hr_3 hI_3 hi_3 hoS_3 hjS_3 hB_3
  clear hoS_4 hjS_4
  have HLOW : Hid (w.heap.size ≤ w4.heap.size) := Lib.hid hB_4.size
  have hWlt : ∀ k, (Value.slice aW LL.length cW).ownBlock = some k → k < w4.heap.size := fun k hk => (hW_4.2.lt k hk).2
  have K := toHeldS_any a n c zs w4 hr_4 hI_4 HW.out hn2 HS.out
  go_wp2_with fail
  with_reducible refine (K).mono ?_
  rintro e w5 ⟨yX, aX, cX, rfl, hylX, hyvX, hoX_5, hb⟩
  rw [hl.out]
  have hYX := Lib.hid hyvX
  have hNX : Hid (yX.length = n) := Lib.hid (hylX.trans hl.out)
  clear hylX hyvX K
  have hr_5 := hr_4.below hb
  have hI_5 := hI_4.below hb
  have hi_5 := hi_4.below hb
  have hW_5 := hW_4.below hb
  have hB_5 := hB_4.trans (hb.mono hB_4.size)
  have hs_5 := hb.size
  clear hb hr_4 hI_4 hi_4 hW_4 hB_4
  have hXlt : ∀ k, (Value.slice aX n cX).ownBlock = some k → k < w5.heap.size := fun k hk => (World.ownsRow.lt hoX_5.row k (by rw [hNX.out]; exact hk)).2
  have hXin : ∀ x ∈ yX, ∀ k, (Value.slice x.ad x.zs.length x.cp).ownBlock = some k → k < w5.heap.size := fun x hx k hk => (World.ownsRow.lt (hoX_5.ins x hx).2 k hk).2
  have K := toIntS_any a' n' c' is w5 hi_5 HWI.out hni
  go_wp2_with fail
  with_reducible refine (K).mono ?_
  rintro e w6 ⟨bX, dX, rfl, hjX_6, hb⟩
  rw [hli.out]
  clear K
  have hr_6 := hr_5.below hb
  have hI_6 := hI_5.below hb
  have hi_6 := hi_5.below hb
  have hW_6 := hW_5.below hb
  have hoX_6 := hoX_5.below hb
  have hB_6 := hB_5.trans (hb.mono hB_5.size)
  have hs_6 := hb.size
  clear hb hr_5 hI_5 hi_5 hW_5 hoX_5 hB_5
  have hJlt : ∀ k, (Value.slice bX n' dX).ownBlock = some k → w5.heap.size ≤ k ∧ k < w6.heap.size := fun k hk => hjX_6.2.lt k (by rw [hli.out]; exact hk)
  have K := C2.out _ _ aX cX yX bX dX w6 hNX.out hYX.out hoX_6 hjX_6
  go_wp2_with fail
  with_reducible refine (K).mono ?_
  rintro e w7 ⟨aG, cG, rfl, hG_7, hb⟩
  clear K
  have hr_7 := hr_6.below hb
  have hI_7 := hI_6.below hb
  have hi_7 := hi_6.below hb
  have hW_7 := hW_6.below hb
  have hoX_7 := hoX_6.below hb
  have hjX_7 := hjX_6.below hb
  have hB_7 := hB_6.trans (hb.mono hB_6.size)
  have hs_7 := hb.size
  clear hb hr_6 hI_6 hi_6 hW_6 hoX_6 hjX_6 hB_6
  have hGge : ∀ k, (Value.slice aG LL.length cG).ownBlock = some k → w6.heap.size ≤ k := fun k hk => (hG_7.2.lt k hk).1
  have K := eqIntS_any aG aW _ _ cG cW LL LL w7 hG_7.rd hW_7.rd (by omega) (by omega)
  rw [eqI_self] at K
  go_wp2_with fail
  with_reducible refine (K).mono ?_
  rintro e w8 ⟨rfl, q, hq⟩
  have hb : Below w7.heap.size w7 w8 := by rw [hq]; exact below_drewN (Below.refl _ _) _
  clear hq K
  have hr_8 := hr_7.below hb
  have hI_8 := hI_7.below hb
  have hi_8 := hi_7.below hb
  have hW_8 := hW_7.below hb
  have hoX_8 := hoX_7.below hb
  have hjX_8 := hjX_7.below hb
  have hG_8 := hG_7.below hb
  have hB_8 := hB_7.trans (hb.mono hB_7.size)
  have hs_8 := hb.size
  clear hb hr_7 hI_7 hi_7 hW_7 hoX_7 hjX_7 hG_7 hB_7
  have K := toHeldS_any a n c zs w8 hr_8 hI_8 HW.out hn2 HS.out
  go_wp2_with fail
  with_reducible refine (K).mono ?_
  rintro e w9 ⟨yY, aY, cY, rfl, hylY, hyvY, hoY_9, hb⟩
  rw [hl.out]
  have hYY := Lib.hid hyvY
  have hNY : Hid (yY.length = n) := Lib.hid (hylY.trans hl.out)
  clear hylY hyvY K
  have hr_9 := hr_8.below hb
  have hI_9 := hI_8.below hb
  have hi_9 := hi_8.below hb
  have hW_9 := hW_8.below hb
  have hoX_9 := hoX_8.below hb
  have hjX_9 := hjX_8.below hb
  have hG_9 := hG_8.below hb
  have hB_9 := hB_8.trans (hb.mono hB_8.size)
  have hs_9 := hb.size
  clear hb hr_8 hI_8 hi_8 hW_8 hoX_8 hjX_8 hG_8 hB_8
  have K := eqHeldS_self aX aY n cX cY yX yY (by rw [hYX.out, hYY.out]) w9 (hoX_9.rdN hNX.out) (hoY_9.rdN hNY.out) hoX_9.inn hoY_9.inn (by omega) (fun x hx => by have := vals_size hYX.out HS.out x hx; omega)
  go_wp2_with fail
  with_reducible refine (K).mono ?_
  rintro e w10 ⟨rfl, hb⟩
  clear K
  have hr_10 := hr_9.below hb
  have hI_10 := hI_9.below hb
  have hi_10 := hi_9.below hb
  have hW_10 := hW_9.below hb
  have hoX_10 := hoX_9.below hb
  have hjX_10 := hjX_9.below hb
  have hG_10 := hG_9.below hb
  have hB_10 := hB_9.trans (hb.mono hB_9.size)
  have hs_10 := hb.size
  clear hb hr_9 hI_9 hi_9 hW_9 hoX_9 hjX_9 hG_9 hoY_9 hB_9
  have K := toIntS_any a' n' c' is w10 hi_10 HWI.out hni
  go_wp2_with fail
  with_reducible refine (K).mono ?_
  rintro e w11 ⟨bY, dY, rfl, hjY_11, hb⟩
  rw [hli.out]
  clear K
  have hr_11 := hr_10.below hb
  have hI_11 := hI_10.below hb
  have hi_11 := hi_10.below hb
  have hW_11 := hW_10.below hb
  have hoX_11 := hoX_10.below hb
  have hjX_11 := hjX_10.below hb
  have hG_11 := hG_10.below hb
  have hB_11 := hB_10.trans (hb.mono hB_10.size)
  have hs_11 := hb.size
  clear hb hr_10 hI_10 hi_10 hW_10 hoX_10 hjX_10 hG_10 hB_10
  have K := eqIntS_any bX bY _ _ dX dY is is w11 hjX_11.rd hjY_11.rd (by have := hli.out; omega) (by have := hli.out; omega)
  rw [eqI_self, hli.out] at K
  go_wp2_with fail
  with_reducible refine (K).mono ?_
  rintro e w12 ⟨rfl, q, hq⟩
  have hb : Below w11.heap.size w11 w12 := by rw [hq]; exact below_drewN (Below.refl _ _) _
  clear hq K
  have hr_12 := hr_11.below hb
  have hI_12 := hI_11.below hb
  have hi_12 := hi_11.below hb
  have hW_12 := hW_11.below hb
  have hoX_12 := hoX_11.below hb
  have hjX_12 := hjX_11.below hb
  have hG_12 := hG_11.below hb
  have hB_12 := hB_11.trans (hb.mono hB_11.size)
  have hs_12 := hb.size
  clear hb hr_11 hI_11 hi_11 hW_11 hoX_11 hjX_11 hG_11 hjY_11 hB_11
  have K := markHeldS_any w4.heap.size w5.heap.size aX cX n yX 1 w12 hoX_12 hNX.out hXlt hXin (by have := hs_6; have := hs_7; have := hs_8; have := hs_9; have := hs_10; have := hs_11; have := hs_12; omega) (by have := hs_5; have := hs_6; have := hs_7; have := hs_8; have := hs_9; have := hs_10; have := hs_11; have := hs_12; omega) hn2 (HSZ.out yX hYX.out)
  clear hXlt hXin
  go_wp2_with fail
  with_reducible refine K.mono ?_
  rintro e w13 ⟨k1, rfl, hk1, hwi⟩
  have hk1b := hk1
  have hB_13 := hB_12.trans (hwi.below (B := w.heap.size) HLOW.out (by have := hB_12.size; omega))
  have hW_13 := hW_12.within hwi (fun k hk => .inl (hWlt k hk))
  have hG_13 := hG_12.within hwi (fun k hk => .inr (by have := hGge k hk; have := hs_6; omega))
  have hjX_13 := hjX_12.within hwi (fun k hk => .inr (hJlt k (by rw [hli.out] at hk; exact hk)).1)
  have hs_13 := hwi.size
  clear hwi hB_12 hW_12 hG_12 hoX_12 hr_12 hI_12 K hk1 hi_12 hjX_12
  have K := markIntS_any _ bX dX is k1 w13 hjX_13 (by omega) (by omega) (by have := hli.out; omega)
  rw [hli.out] at K
  go_wp2_with fail
  with_reducible refine K.mono ?_
  rintro e w14 ⟨rfl, hjX_14, hg⟩
  have hW_14 := hW_13.apartI hg (fun k hk r hr => by have := hWlt k hk; have := (hJlt r hr).1; have := hs_5; omega)
  have hG_14 := hG_13.apartI hg (fun k hk r hr => by have := hGge k hk; have := (hJlt r hr).2;  omega)
  have hB_14 := hB_13.grown hg hB_13.size (fun r hr => by have := (hJlt r hr).1; have := HLOW.out; have := hs_5; omega)
  have dk : decide (k1 + (n' : Int) < 0) = false := by simp; omega
  have hs_14 := hg.size
  clear K hg hW_13 hG_13 hB_13 hjX_13 hjX_14
  have K := eqIntS_any aG aW _ _ cG cW LL LL w14 hG_14.rd hW_14.rd (by omega) (by omega)
  rw [eqI_self] at K
  go_wp2_with fail
  with_reducible refine (K).mono ?_
  rintro e w15 ⟨rfl, q, hq⟩
  have hb : Below w14.heap.size w14 w15 := by rw [hq]; exact below_drewN (Below.refl _ _) _
  clear hq K
  have hW_15 := hW_14.below hb
  have hG_15 := hG_14.below hb
  have hB_15 := hB_14.trans (hb.mono hB_14.size)
  have hs_15 := hb.size
  clear hb hW_14 hG_14 hB_14
  have K := markIntS_any _ aG cG LL 1 w15 hG_15 (by omega) (by omega) (by omega)
  go_wp2_with fail
  with_reducible refine K.mono ?_
  rintro e w16 ⟨rfl, hG_16, hg⟩
  have hW_16 := hW_15.apartI hg (fun k hk r hr => by have := hWlt k hk; have := hGge r hr; have := hs_5; have := hs_6; omega)
  have hB_16 := hB_15.grown hg hB_15.size (fun r hr => by have := hGge r hr; have := HLOW.out; have := hs_5; have := hs_6; omega)
  have hr_16 := HR0.out.below hB_16
  have hI_16 := HI.out.below hB_16
  have hi_16 := hi0.out.below hB_16
  clear K hg hW_15 hG_15 hB_15
  have K := heldIntS_any aG _ cG 1 w16 (heldRd hG_16) (by omega) (by omega) (by omega)
  go_wp2_with fail
  with_reducible refine K.mono ?_
  rintro e w' ⟨rfl, rfl⟩
  clear K
  have K := toHeldS_any a n c zs w16 hr_16 hI_16 HW.out hn2 HS.out
  go_wp2_with fail
  with_reducible refine (K).mono ?_
  rintro e w17 ⟨yT, aT, cT, rfl, hylT, hyvT, hoT_17, hb⟩
  rw [hl.out]
  have hYT := Lib.hid hyvT
  have hNT : Hid (yT.length = n) := Lib.hid (hylT.trans hl.out)
  clear hylT hyvT K
  have hr_17 := hr_16.below hb
  have hI_17 := hI_16.below hb
  have hW_17 := hW_16.below hb
  have hG_17 := hG_16.below hb
  have hi_17 := hi_16.below hb
  have hB_17 := hB_16.trans (hb.mono hB_16.size)
  have hs_17 := hb.size
  clear hb hr_16 hI_16 hW_16 hG_16 hi_16 hB_16
  have K := toIntS_any a' n' c' is w17 hi_17 HWI.out hni
  go_wp2_with fail
  with_reducible refine (K).mono ?_
  rintro e w18 ⟨bT, dT, rfl, hjT_18, hb⟩
  rw [hli.out]
  clear K
  have hr_18 := hr_17.below hb
  have hI_18 := hI_17.below hb
  have hW_18 := hW_17.below hb
  have hG_18 := hG_17.below hb
  have hi_18 := hi_17.below hb
  have hoT_18 := hoT_17.below hb
  have hB_18 := hB_17.trans (hb.mono hB_17.size)
  have hs_18 := hb.size
  clear hb hr_17 hI_17 hW_17 hG_17 hi_17 hoT_17 hB_17
  have K := C2.out _ _ aT cT yT bT dT w18 hNT.out hYT.out hoT_18 hjT_18
  go_wp2_with fail
  with_reducible refine (K).mono ?_
  rintro e w19 ⟨aH, cH, rfl, hH_19, hb⟩
  clear K
  have hr_19 := hr_18.below hb
  have hI_19 := hI_18.below hb
  have hW_19 := hW_18.below hb
  have hG_19 := hG_18.below hb
  have hi_19 := hi_18.below hb
  have hoT_19 := hoT_18.below hb
  have hjT_19 := hjT_18.below hb
  have hB_19 := hB_18.trans (hb.mono hB_18.size)
  have hs_19 := hb.size
  clear hb hr_18 hI_18 hW_18 hG_18 hi_18 hoT_18 hjT_18 hB_18
  have K := eqIntS_any aH aW _ _ cH cW LL LL w19 hH_19.rd hW_19.rd (by omega) (by omega)
  rw [eqI_self] at K
  go_wp2_with fail
  with_reducible refine (K).mono ?_
  rintro e w20 ⟨rfl, q, hq⟩
  have hb : Below w19.heap.size w19 w20 := by rw [hq]; exact below_drewN (Below.refl _ _) _
  clear hq K
  have hr_20 := hr_19.below hb
  have hI_20 := hI_19.below hb
  have hW_20 := hW_19.below hb
  have hG_20 := hG_19.below hb
  have hi_20 := hi_19.below hb
  have hoT_20 := hoT_19.below hb
  have hjT_20 := hjT_19.below hb
  have hH_20 := hH_19.below hb
  have hB_20 := hB_19.trans (hb.mono hB_19.size)
  have hs_20 := hb.size
  clear hb hr_19 hI_19 hW_19 hG_19 hi_19 hoT_19 hjT_19 hH_19 hB_19
  have K := heldIntS_any aG _ cG 1 w20 (heldRd hG_20) (by omega) (by omega) (by omega)
  go_wp2_with fail
  with_reducible refine K.mono ?_
  rintro e w' ⟨rfl, rfl⟩
  clear K
  go_wp2
  go_ret
  exact ⟨rfl, hB_20⟩

set_option maxHeartbeats 1000000 in
theorem FnExactFileLoad_walk (a : Option Addr) (n c : Nat) (zs : List HV) (a' : Option Addr) (n' c' : Nat) (is : List Int) (w : World) (hri : RdR eltHL w a n zs ∧ InH w zs) (hwf : WfH zs) (hm : n ≤ maxLen) (hi : RdI w a' n' is) (hwi : WfI is) (hm' : n' ≤ maxLen) :
    Calls Try.prog 6 #[.slice a n c, .slice a' n' c'] w (Tr w) := by
  obtain ⟨hr, hin⟩ := hri
  unfold maxLen at hm hm'
  rcases Nat.lt_or_ge 1048576 n' with hni | hni
  · have t0 : decide ((1048576 : Int) < (n' : Int)) = true := by simp; omega
    go_enter Try.func6, Try.ntmps6
    go_wp2
    go_ret
    exact ⟨rfl, Below.refl _ _⟩
  have t0 : decide ((1048576 : Int) < (n' : Int)) = false := by simp; omega
  by_cases hbig : 4611686018427387904 < n
  · have hz := szHeldS_big a n c 1048576 w (by omega) (by omega)
    go_enter Try.func6, Try.ntmps6
    go_wp2_with fail
    with_reducible refine hz.mono ?_
    rintro e w1 ⟨rfl, hb⟩
    go_wp2
    go_ret
    exact ⟨rfl, hb⟩
  have hsn := szH_nonneg zs
  by_cases hn : (1048576 : Int) - (n + szH zs) < 0
  · have hz := szHeldS_any a n c zs 1048576 w hr hwf (by omega) (by omega) (by omega)
    rw [show leftH 1048576 (n + szH zs) = -1 by unfold leftH; rw [if_pos hn]] at hz
    go_enter Try.func6, Try.ntmps6
    go_wp2_with fail
    with_reducible refine hz.mono ?_
    rintro e w1 ⟨rfl, hb⟩
    go_wp2
    go_ret
    exact ⟨rfl, hb⟩
  · exact FnExactFileLoad_core a n c zs a' n' c' is (loadR (valsH zs) is).1 (loadR (valsH zs) is).2 w hr hin hwf (by omega) hi hwi hni (Nat.le_trans (loadR_len (valsH zs) is) (by omega)) rfl

end Go.Proofs.Ytkjimngpodhdbaa
