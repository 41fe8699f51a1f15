/- Walks of FnExactBlockUnpack, FnPack, FnUnpack and FnUnpackPart. -/
import Derived.Test.YtbegmliglabpfaaUnpackSpec
import Derived.Test.YtbegmliglabpfaaDrawUn
import Derived.Test.YtbegmliglabpfaaPackLaw
import Derived.Deep.RegionHeld3
namespace Go.Proofs.Ytbegmliglabpfaa
open Go.RowKit
set_option linter.unusedVariables false

theorem unR_length (rs : List Int) : (unR rs).length ≤ 8 := by
  unfold unR
  split
  · rename_i h
    simp only [unOK, Bool.and_eq_true] at h
    exact (blockV_parts h.1).2.2
  · simp

theorem un_pack {zs : List Int} (h : blockV zs = true) : unR (packL zs) = zs ∧ unOK (packL zs) = true := by
  have h1 : exp8 (pairsOf (packL zs)) = zs := by
    unfold packL
    have hl := (blockV_parts h).2.2
    rw [pairs_flat, exp8_eq _ (fun p hp => by have := runsP_bd zs p hp; omega), expand_runsP]
  have h2 : unOK (packL zs) = true := by simp only [unOK, h1, h, Bool.true_and, decide_true]
  exact ⟨by rw [unR, if_pos h2, h1], h2⟩

theorem pack_un {rs : List Int} (h : unOK rs = true) : packR (unR rs) = rs ∧ blockV (unR rs) = true := by
  have h1 : unR rs = exp8 (pairsOf rs) := by rw [unR, if_pos h]
  simp only [unOK, Bool.and_eq_true, decide_eq_true_eq] at h
  rw [h1]
  exact ⟨by rw [packR, if_pos h.1]; exact h.2, h.1⟩

theorem un_odd {rs : List Int} (h : rs.length % 2 = 1) : unOK rs = false := by
  rw [← un_iff]
  unfold readOK
  rw [decide_eq_false (by omega)]
  rfl

theorem un_twice {rs : List Int} (h : 2 ≤ rs.length) : unOK ([rs.getD 0 0, rs.getD 1 0] ++ rs) = false := by
  cases hx : unOK ([rs.getD 0 0, rs.getD 1 0] ++ rs) with
  | false => rfl
  | true =>
    exfalso
    rw [← un_iff] at hx
    obtain ⟨_, _, _, h4, _⟩ := readOK_facts hx
    have hl := pairsOf_length ([rs.getD 0 0, rs.getD 1 0] ++ rs)
    simp only [List.length_append, List.length_cons, List.length_nil] at hl
    have := h4 0 (by omega)
    have hL : ([rs.getD 0 0, rs.getD 1 0] ++ rs).length = rs.length + 2 := by simp
    rw [pairsOf_getD _ 0 (by omega), pairsOf_getD _ 1 (by omega)] at this
    apply this
    simp [List.getD_eq_getElem?_getD]

set_option maxHeartbeats 2000000 in
theorem FnExactBlockUnpack_core (a : Option Addr) (n c : Nat) (zs LL : List Int) (bb : Bool) (w : World) (hr : RdI w a n zs) (hwf : WfI zs) (hn : n ≤ 1048576) (hz : zs.length ≤ 1048576) (hL : LL.length ≤ 1048576000)
    (specBlockUnpack_any : ∀ (a : Option Addr) (n c : Nat) (ys : List Int) (w : World), RdI w a n ys → WfI ys → n ≤ 1048576 → Calls Try.prog 33 #[.slice a n c] w (RetIB w (unR ys) (unOK ys)))
    (implBlockUnpack_any : ∀ (a : Option Addr) (n c : Nat) (ys : List Int) (w : World), RdI w a n ys → WfI ys → n ≤ c → n ≤ 1048576 → Calls Try.prog 34 #[.slice a n c] w (RetIB w (unR ys) (unOK ys)))
    (hLL : unR zs = LL) (hbb0 : unOK zs = bb) :
    Calls Try.prog 12 #[.slice a n c] w (Tr w) := by
  have c1 : ∀ (a : Option Addr) (n c : Nat) (w : World), RdI w a n zs → WfI zs → n ≤ 1048576 → Calls Try.prog 33 #[.slice a n c] w (RetIB w LL bb) := fun a n c w h1 h2 h3 => by rw [← hLL, ← hbb0]; exact specBlockUnpack_any a n c zs w h1 h2 h3
  have c2 : ∀ (a : Option Addr) (n c : Nat) (w : World), RdI w a n zs → WfI zs → n ≤ c → n ≤ 1048576 → Calls Try.prog 34 #[.slice a n c] w (RetIB w LL bb) := fun a n c w h1 h2 h3 h4 => by rw [← hLL, ← hbb0]; exact implBlockUnpack_any a n c zs w h1 h2 h3 h4
  have C1 := Lib.hid c1
  have C2 := Lib.hid c2
  clear c1 c2 hLL hbb0 specBlockUnpack_any implBlockUnpack_any
  · go_enter Try.func12, Try.ntmps12
    have hA_0 := hr
    go_wp2_with fail
    with_reducible refine (toIntS_any a n c zs _ hA_0 hwf hn).mono ?_
    rintro e w1 ⟨aS, cS, rfl, hS_1, hb_1⟩
    have hA_1 := hA_0.below hb_1
    have hB_1 : Below w.heap.size w w1 := hb_1
    have hsz_1 := hb_1.size
    clear hb_1
    go_wp2_with fail
    with_reducible refine (C1.out aS _ cS _ hS_1.rd hS_1.wf (by omega)).mono ?_
    rintro e w2 ⟨aW, cW, rfl, hW_2, hb_2⟩
    have hA_2 := hA_1.below hb_2
    have hS_2 := hS_1.below hb_2
    clear hA_1 hS_1
    have hB_2 := hB_1.trans (hb_2.mono hB_1.size)
    clear hB_1
    have hsz_2 := hb_2.size
    clear hb_2
    clear hS_2
    have hWlt : ∀ k, (Value.slice aW LL.length cW).ownBlock = some k → k < w2.heap.size := fun k hk => (hW_2.2.lt k hk).2
    go_wp2_with fail
    with_reducible refine (toIntS_any a n c zs _ hA_2 hwf hn).mono ?_
    rintro e w3 ⟨aX, cX, rfl, hX_3, hb_3⟩
    have hA_3 := hA_2.below hb_3
    have hW_3 := hW_2.below hb_3
    clear hA_2 hW_2
    have hB_3 := hB_2.trans (hb_3.mono hB_2.size)
    clear hB_2
    have hsz_3 := hb_3.size
    clear hb_3
    have hXlt : ∀ k, (Value.slice aX zs.length cX).ownBlock = some k → k < w3.heap.size := fun k hk => (hX_3.2.lt k hk).2
    go_wp2_with fail
    with_reducible refine (C2.out aX _ cX _ hX_3.rd hX_3.wf hX_3.cap.1 (by omega)).mono ?_
    rintro e w4 ⟨aG, cG, rfl, hG_4, hb_4⟩
    have hA_4 := hA_3.below hb_4
    have hW_4 := hW_3.below hb_4
    have hX_4 := hX_3.below hb_4
    clear hA_3 hW_3 hX_3
    have hB_4 := hB_3.trans (hb_4.mono hB_3.size)
    clear hB_3
    have hsz_4 := hb_4.size
    clear hb_4
    go_wp2_with fail
    with_reducible refine (eqIntS_any aG aW _ _ cG cW LL LL _ hG_4.rd hW_4.rd (by omega) (by omega)).mono ?_
    rintro e w5 ⟨rfl, m5, hm5⟩
    have hb_5 : Below w4.heap.size w4 w5 := by rw [hm5]; exact below_drewN (Below.refl _ _) _
    clear hm5
    rw [eqI_self]
    have hA_5 := hA_4.below hb_5
    have hW_5 := hW_4.below hb_5
    have hX_5 := hX_4.below hb_5
    have hG_5 := hG_4.below hb_5
    clear hA_4 hW_4 hX_4 hG_4
    have hB_5 := hB_4.trans (hb_5.mono hB_4.size)
    clear hB_4
    clear hb_5
    have hbb : (bb != bb) = false := by simp
    go_wp2_with fail
    with_reducible refine (toIntS_any a n c zs _ hA_5 hwf hn).mono ?_
    rintro e w6 ⟨aY, cY, rfl, hY_6, hb_6⟩
    have hA_6 := hA_5.below hb_6
    have hW_6 := hW_5.below hb_6
    have hX_6 := hX_5.below hb_6
    have hG_6 := hG_5.below hb_6
    clear hA_5 hW_5 hX_5 hG_5
    have hB_6 := hB_5.trans (hb_6.mono hB_5.size)
    clear hB_5
    have hsz_6 := hb_6.size
    clear hb_6
    go_wp2_with fail
    with_reducible refine (eqIntS_any aX aY _ _ cX cY zs zs _ hX_6.rd hY_6.rd (by omega) (by omega)).mono ?_
    rintro e w7 ⟨rfl, m7, hm7⟩
    have hb_7 : Below w6.heap.size w6 w7 := by rw [hm7]; exact below_drewN (Below.refl _ _) _
    clear hm7
    rw [eqI_self]
    have hA_7 := hA_6.below hb_7
    have hW_7 := hW_6.below hb_7
    have hX_7 := hX_6.below hb_7
    have hG_7 := hG_6.below hb_7
    have hY_7 := hY_6.below hb_7
    clear hA_6 hW_6 hX_6 hG_6 hY_6
    have hB_7 := hB_6.trans (hb_7.mono hB_6.size)
    clear hB_6
    clear hb_7
    clear hY_7
    go_wp2_with fail
    with_reducible refine (markIntS_any _ aX cX zs 1 _ hX_7 (by omega) (by omega) (by omega)).mono ?_
    rintro e w8 ⟨rfl, hX_8, hg_8⟩
    have hW_8 := (hW_7).apart hg_8 (fun k hk r hr => by have := hWlt k hk; have := (hX_7.2.lt r hr).1; omega)
    have hG_8 := (hG_7).apart hg_8 (fun k hk r hr => by have := hXlt r hr; have := (hG_7.2.lt k hk).1; omega)
    have hB_8 := hB_7.grown hg_8 hB_7.size (fun r hr => by have := (hX_7.2.lt r hr).1; omega)
    have hA_8 := hA_0.below hB_8
    clear hB_7 hg_8 hA_7 hW_7 hX_7 hG_7
    clear hX_8
    go_wp2_with fail
    with_reducible refine (eqIntS_any aG aW _ _ cG cW LL LL _ hG_8.rd hW_8.rd (by omega) (by omega)).mono ?_
    rintro e w9 ⟨rfl, m9, hm9⟩
    have hb_9 : Below w8.heap.size w8 w9 := by rw [hm9]; exact below_drewN (Below.refl _ _) _
    clear hm9
    rw [eqI_self]
    have hA_9 := hA_8.below hb_9
    have hW_9 := hW_8.below hb_9
    have hG_9 := hG_8.below hb_9
    clear hA_8 hW_8 hG_8
    have hB_9 := hB_8.trans (hb_9.mono hB_8.size)
    clear hB_8
    clear hb_9
    go_wp2_with fail
    with_reducible refine (markIntS_any _ aG cG LL 1 _ hG_9 (by omega) (by omega) (by omega)).mono ?_
    rintro e w10 ⟨rfl, hG_10, hg_10⟩
    have hW_10 := (hW_9).apart hg_10 (fun k hk r hr => by have := hWlt k hk; have := (hG_9.2.lt r hr).1; omega)
    have hB_10 := hB_9.grown hg_10 hB_9.size (fun r hr => by have := (hG_9.2.lt r hr).1; omega)
    have hA_10 := hA_0.below hB_10
    clear hB_9 hg_10 hA_9 hW_9 hG_9
    go_wp2_with fail
    with_reducible refine (heldIntS_any aG _ cG 1 _ (heldRd hG_10) (by omega) (by omega) (by omega)).mono ?_
    rintro e w' ⟨rfl, rfl⟩
    have hqq : ((1 + (LL.length : Int)) != 1 + (LL.length : Int)) = false := by simp
    go_wp2_with fail
    with_reducible refine (toIntS_any a n c zs _ hA_10 hwf hn).mono ?_
    rintro e w11 ⟨aT, cT, rfl, hT_11, hb_11⟩
    have hA_11 := hA_10.below hb_11
    have hW_11 := hW_10.below hb_11
    have hG_11 := hG_10.below hb_11
    clear hA_10 hW_10 hG_10
    have hB_11 := hB_10.trans (hb_11.mono hB_10.size)
    clear hB_10
    have hsz_11 := hb_11.size
    clear hb_11
    go_wp2_with fail
    with_reducible refine (C2.out aT _ cT _ hT_11.rd hT_11.wf hT_11.cap.1 (by omega)).mono ?_
    rintro e w12 ⟨aH, cH, rfl, hH_12, hb_12⟩
    have hA_12 := hA_11.below hb_12
    have hW_12 := hW_11.below hb_12
    have hG_12 := hG_11.below hb_12
    have hT_12 := hT_11.below hb_12
    clear hA_11 hW_11 hG_11 hT_11
    have hB_12 := hB_11.trans (hb_12.mono hB_11.size)
    clear hB_11
    have hsz_12 := hb_12.size
    clear hb_12
    go_wp2_with fail
    with_reducible refine (eqIntS_any aH aW _ _ cH cW LL LL _ hH_12.rd hW_12.rd (by omega) (by omega)).mono ?_
    rintro e w13 ⟨rfl, m13, hm13⟩
    have hb_13 : Below w12.heap.size w12 w13 := by rw [hm13]; exact below_drewN (Below.refl _ _) _
    clear hm13
    rw [eqI_self]
    have hA_13 := hA_12.below hb_13
    have hW_13 := hW_12.below hb_13
    have hG_13 := hG_12.below hb_13
    have hT_13 := hT_12.below hb_13
    have hH_13 := hH_12.below hb_13
    clear hA_12 hW_12 hG_12 hT_12 hH_12
    have hB_13 := hB_12.trans (hb_13.mono hB_12.size)
    clear hB_12
    clear hb_13
    go_wp2_with fail
    with_reducible refine (heldIntS_any aG _ cG 1 _ (heldRd hG_13) (by omega) (by omega) (by omega)).mono ?_
    rintro e w' ⟨rfl, rfl⟩
    go_wp2
    go_ret
    exact ⟨rfl, hB_13⟩

theorem FnExactBlockUnpack_walk (a : Option Addr) (n c : Nat) (zs : List Int) (w : World) (hr : RdI w a n zs) (hwf : WfI zs) (hm : n ≤ maxLen) :
    Calls Try.prog 12 #[.slice a n c] w (Tr w) := by
  unfold maxLen at hm
  by_cases hn : n ≤ 1048576
  · exact FnExactBlockUnpack_core a n c zs _ _ w hr hwf hn (by have := hr.1; omega) (by have := unR_length zs; omega)
      (fun a n c ys w h1 h2 h3 => specBlockUnpack_any a n c ys w h1 h2 h3) (fun a n c ys w h1 h2 h3 h4 => implBlockUnpack_any a n c ys w h1 h2 (by omega)) rfl rfl
  · go_enter Try.func12, Try.ntmps12
    go_wp2
    go_ret
    exact ⟨rfl, Below.refl _ _⟩

set_option maxHeartbeats 2000000 in
theorem FnPack_walk (a : Option Addr) (n c : Nat) (w : World) (h : RdC w a n) (hc : n ≤ c) (hm : c ≤ maxLen) :
    Calls Try.prog 15 #[.slice a n c] w (Tr w) := by
  unfold maxLen at hm
  by_cases hn : n ≤ 1048576
  · go_enter Try.func15, Try.ntmps15
    go_wp2_with fail
    with_reducible refine (DrawBlockPack_any a n c _ h hc hn).mono ?_
    rintro e w1 ⟨zs, a1, c1, rfl, hz, hO1, hb1⟩
    go_wp2_with fail
    with_reducible refine (implBlockPack_any a1 zs.length c1 zs _ hO1.rd hO1.wf hO1.cap.1 (by omega)).mono ?_
    rintro e w2 ⟨aG, cG, rfl, hG2, hb⟩
    have hO2 := hO1.below hb
    have hb2 := hb1.trans (hb.mono hb1.size)
    clear hb hO1 hb1 h
    go_wp2_with fail
    with_reducible refine (specBlockPack_any a1 zs.length c1 zs _ hO2.rd hO2.wf (by omega)).mono ?_
    rintro e w3 ⟨aW, cW, rfl, hW3, hb⟩
    have hO3 := hO2.below hb
    have hG3 := hG2.below hb
    have hb3 := hb2.trans (hb.mono hb2.size)
    clear hb hO2 hG2 hb2
    have hpl := packR_length zs
    go_wp2_with fail
    with_reducible refine (sameInts_any aG aW _ _ cG cW (packR zs) (packR zs) _ hG3.rd hW3.rd (by omega) (by omega)).mono ?_
    rintro e w4 ⟨rfl, m4, hm4⟩
    have hb : Below w3.heap.size w3 w4 := by rw [hm4]; exact below_drewN (Below.refl _ _) _
    rw [eqI_self]
    have hO4 := hO3.below hb
    have hG4 := hG3.below hb
    have hW4 := hW3.below hb
    have hb4 := hb3.trans (hb.mono hb3.size)
    clear hb hm4 hO3 hG3 hW3 hb3
    by_cases hv : blockV zs = true
    · have hp : packR zs = packL zs := by simp [packR, hv]
      rw [hp] at hG4 hW4 hpl ⊢
      clear hp
      have hlen := (blockV_parts hv).2
      have hall := Lib.hid (blockV_parts hv).1
      have HV := Lib.hid hv
      obtain ⟨hl1, hl8⟩ := hlen
      have hun : unR (packL zs) = zs ∧ unOK (packL zs) = true := un_pack hv
      go_wp2_with fail
      with_reducible refine (implBlockUnpack_any aG (packL zs).length cG (packL zs) _ hG4.rd hG4.wf (by omega)).mono ?_
      rintro e w5 ⟨aX, cX, rfl, hX, hb5⟩
      rw [hun.1] at hX ⊢
      rw [hun.2]
      have hO5 := hO4.below hb5
      have hb6 := hb4.trans (hb5.mono hb4.size)
      clear hun hb5 hb4 hO4 hG4 hW4
      go_wp2_with fail
      with_reducible refine (sameInts_any aX a1 _ _ cX c1 zs zs _ hX.rd hO5.rd (by omega) (by omega)).mono ?_
      rintro e w7 ⟨rfl, m7, rfl⟩
      rw [eqI_self]
      go_wp2
      go_ret
      exact ⟨rfl, below_drewN hb6 _⟩

    · have hv' : blockV zs = false := by simpa using hv
      clear hv
      go_wp2_with fail
      with_reducible refine (sameInts_any aG aW _ _ cG cW (packR zs) (packR zs) _ hG4.rd hW4.rd (by omega) (by omega)).mono ?_
      rintro e w5 ⟨rfl, m5, hm5⟩
      have hb : Below w4.heap.size w4 w5 := by rw [hm5]; exact below_drewN (Below.refl _ _) _
      rw [eqI_self]
      have hb5 := hb4.trans (hb.mono hb4.size)
      clear hb hm5
      go_wp2
      go_ret
      exact ⟨rfl, hb5⟩
  · go_enter Try.func15, Try.ntmps15
    go_wp2
    go_ret
    exact ⟨rfl, Below.refl _ _⟩

set_option maxHeartbeats 2000000 in
theorem FnUnpack_walk (a : Option Addr) (n c : Nat) (w : World) (h : RdC w a n) (hc : n ≤ c) (hm : c ≤ maxLen) :
    Calls Try.prog 17 #[.slice a n c] w (Tr w) := by
  unfold maxLen at hm
  by_cases hn : n ≤ 1048576
  · go_enter Try.func17, Try.ntmps17
    go_wp2_with fail
    with_reducible refine (DrawBlockUnpack_any a n c _ h hc hn).mono ?_
    rintro e w1 ⟨zs, a1, c1, rfl, hz, hO1, hb1⟩
    go_wp2_with fail
    with_reducible refine (implBlockUnpack_any a1 zs.length c1 zs _ hO1.rd hO1.wf (by omega)).mono ?_
    rintro e w2 ⟨aG, cG, rfl, hG2, hb⟩
    have hO2 := hO1.below hb
    have hb2 := hb1.trans (hb.mono hb1.size)
    clear hb hO1 hb1 h
    go_wp2_with fail
    with_reducible refine (specBlockUnpack_any a1 zs.length c1 zs _ hO2.rd hO2.wf (by omega)).mono ?_
    rintro e w3 ⟨aW, cW, rfl, hW3, hb⟩
    have hO3 := hO2.below hb
    have hG3 := hG2.below hb
    have hb3 := hb2.trans (hb.mono hb2.size)
    clear hb hO2 hG2 hb2
    have hpl := unR_length zs
    go_wp2_with fail
    with_reducible refine (sameInts_any aG aW _ _ cG cW (unR zs) (unR zs) _ hG3.rd hW3.rd (by omega) (by omega)).mono ?_
    rintro e w4 ⟨rfl, m4, hm4⟩
    have hb : Below w3.heap.size w3 w4 := by rw [hm4]; exact below_drewN (Below.refl _ _) _
    rw [eqI_self]
    have hO4 := hO3.below hb
    have hG4 := hG3.below hb
    have hW4 := hW3.below hb
    have hb4 := hb3.trans (hb.mono hb3.size)
    clear hb hm4 hO3 hG3 hW3 hb3
    by_cases hv : unOK zs = true
    · have HV := Lib.hid hv
      have hok : readOK zs = true := by rw [un_iff]; exact hv
      have hpk := pack_un hv
      have hcapG := hG4.cap.1
      go_wp2_with fail
      with_reducible refine (implBlockPack_any aG (unR zs).length cG (unR zs) _ hG4.rd hG4.wf hcapG (by omega)).mono ?_
      rintro e w5 ⟨aX, cX, rfl, hX, hb5⟩
      rw [hpk.1] at hX ⊢
      rw [hpk.2]
      have hO5 := hO4.below hb5
      have hG5 := hG4.below hb5
      have hb6 := hb4.trans (hb5.mono hb4.size)
      have HPK := Lib.hid hpk
      clear hb5 hb4 hO4 hG4 hW4 hok hpk
      go_wp2_with fail
      with_reducible refine (implBlockValid_any aG (unR zs).length cG (unR zs) _ hG5.rd (by omega)).mono ?_
      rintro e w' ⟨rfl, rfl⟩
      rw [HPK.out.2]
      go_wp2_with fail
      with_reducible refine (sameInts_any aX a1 _ _ cX c1 zs zs _ hX.rd hO5.rd (by omega) (by omega)).mono ?_
      rintro e w7 ⟨rfl, m7, rfl⟩
      rw [eqI_self]
      go_wp2
      go_ret
      exact ⟨rfl, below_drewN hb6 _⟩

    · have hv' : unOK zs = false := by simpa using hv
      clear hv
      go_wp2_with fail
      with_reducible refine (sameInts_any aG aW _ _ cG cW (unR zs) (unR zs) _ hG4.rd hW4.rd (by omega) (by omega)).mono ?_
      rintro e w5 ⟨rfl, m5, hm5⟩
      have hb : Below w4.heap.size w4 w5 := by rw [hm5]; exact below_drewN (Below.refl _ _) _
      rw [eqI_self]
      have hb5 := hb4.trans (hb.mono hb4.size)
      clear hb hm5
      go_wp2
      go_ret
      exact ⟨rfl, hb5⟩
  · go_enter Try.func17, Try.ntmps17
    go_wp2
    go_ret
    exact ⟨rfl, Below.refl _ _⟩

end Go.Proofs.Ytbegmliglabpfaa
