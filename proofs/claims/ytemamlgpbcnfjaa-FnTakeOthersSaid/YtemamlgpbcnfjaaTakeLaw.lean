/- Walks of the laws of SpaceTake: FnTake, FnTakeMost, FnTakeFirst, FnTakeOthers, FnMostTake. -/
import Derived.Test.YtemamlgpbcnfjaaTakeSpec
import Derived.Test.YtemamlgpbcnfjaaPlainTake2
import Derived.Test.YtemamlgpbcnfjaaDrawXs
import Derived.Test.YtemamlgpbcnfjaaSameX
import Derived.Test.YtemamlgpbcnfjaaExTake
import Derived.Test.YtemamlgpbcnfjaaFreeMost
import Derived.Test.YtemamlgpbcnfjaaTr
namespace Go.Proofs.Ytemamlgpbcnfjaa
open Go.RowKit
set_option linter.unusedVariables false

theorem sameSpace_self (a a' : Option Addr) (n c c' : Nat) (xs : List (Int × Int)) (w : World) (hr : RdX w a n xs) (hr' : RdX w a' n xs) (hw : WfX xs) (hn : n ≤ 4611686018427387904) :
    Calls Try.prog 15 #[.slice a n c, .slice a' n c'] w (RetB w (.bool true)) :=
  (sameSpace_any a a' n n c c' xs xs w hr hr' hw hw hn hn).mono fun e w' ⟨h1, m, h2⟩ => ⟨by rw [h1, eqX_self], by rw [h2]; exact below_drewN (Below.refl _ _) _⟩

set_option maxHeartbeats 2000000 in
theorem FnTake_walk (a : Option Addr) (n c : Nat) (w : World) (h : RdC w a n) (hc : n ≤ c) (hm : c ≤ maxLen) :
    Calls Try.prog 6 #[.slice a n c] w (Tr w) := by
  unfold maxLen at hm
  by_cases hn : n ≤ 1048576
  · skip
    go_enter Try.func6, Try.ntmps6
    go_wp2_with fail
    with_reducible refine (DrawSpaceTake_any a n c _ h hc hn).mono ?_
    rintro e w1 ⟨zs, a1, c1, t, rfl, hz, ht0, ht1, hO1, hb1⟩
    go_wp2_with fail
    with_reducible refine (implSpaceTake_any a1 zs.length c1 zs t _ hO1.rd hO1.wf (by omega)).mono ?_
    rintro e w2 ⟨aG, cG, rfl, hG2, hb⟩
    have hO2 := hO1.below hb
    have hb2 := hb1.trans (hb.mono hb1.size)
    clear hb hO1 hb1 h
    go_wp2_with fail
    with_reducible refine (specSpaceTake_any a1 zs.length c1 zs t _ hO2.rd hO2.wf (by omega)).mono ?_
    rintro e w3 ⟨aW, cW, rfl, hW3, hb⟩
    have hO3 := hO2.below hb
    have hG3 := hG2.below hb
    have hb3 := hb2.trans (hb.mono hb2.size)
    clear hb hO2 hG2 hb2
    have hlen := takeR_length zs t
    have hok := Lib.hid (@take_ok zs t)
    have hmost := Lib.hid (@take_most zs t)
    obtain ⟨LL, hLL⟩ : ∃ LL, (takeR zs t).1 = LL := ⟨_, rfl⟩
    obtain ⟨tt, htt⟩ : ∃ tt, (takeR zs t).2.1 = tt := ⟨_, rfl⟩
    obtain ⟨bb, hbb⟩ : ∃ bb, (takeR zs t).2.2 = bb := ⟨_, rfl⟩
    rw [hLL, htt, hbb] at hok
    rw [hbb] at hmost
    rw [hLL] at hlen hG3 hW3 ⊢
    rw [htt, hbb]
    clear hLL htt hbb
    have q1 : (bb != bb) = false := by simp
    have q2 : (tt != tt) = false := by simp
    have q3 : (bb == bb) = true := by simp
    have q4 : (tt == tt) = true := by simp
    go_wp2_with fail
    with_reducible refine (sameSpace_self aG aW _ cG cW LL _ hG3.rd hW3.rd hG3.wf (by omega)).mono ?_
    rintro e w4 ⟨rfl, hb⟩
    have hO4 := hO3.below hb
    have hG4 := hG3.below hb
    have hW4 := hW3.below hb
    have hb4 := hb3.trans (hb.mono hb3.size)
    clear hb hO3 hG3 hW3 hb3
    by_cases hbt : bb = true
    · subst hbt
      obtain ⟨hv, hm0, hm1, hr⟩ := hok.out rfl
      have hsp := takeX_spec hm0 hv hr
      simp only at hsp
      obtain ⟨hvL, htt0, htt1, hin, hout⟩ := hsp
      have HV := Lib.hid hv
      have HVL := Lib.hid (show spaceV LL = true from hvL)
      have HIN := Lib.hid hin
      have HOUT := Lib.hid hout
      have HR := Lib.hid hr
      clear hok hmost hv hvL hin hout hr
      go_wp2_with fail
      go_loopw [11] (fun i wr => ∃ k : Nat, (k : Int) ≤ t ∧ i = .int .i64 k ∧ Below w4.heap.size w4 wr) (fun i _ => t.toNat - (intOf i).toNat)
      case atStart => exact ⟨0, by omega, rfl, Below.refl _ _⟩
      case round =>
        obtain ⟨k, hk, rfl, hbr⟩ := hrel
        have hOr := hO4.below hbr
        have hGr := hG4.below hbr
        by_cases hlt : (k : Int) < t
        · have HI : Hid (inS zs (tt + k) = true) := Lib.hid (HIN.out _ (by omega) (by omega))
          have HJ : Hid (inS LL (tt + k) = false) := Lib.hid (by
            rw [HOUT.out]
            have e1 : decide (tt ≤ tt + (k : Int)) = true := by simp; omega
            have e2 : decide (tt + (k : Int) < tt + t) = true := by simp; omega
            rw [e1, e2]; simp)
          go_wp2_with fail
          with_reducible refine (isFree_any a1 _ c1 zs (tt + k) _ hOr.rd hOr.wf (by omega) HV.out).mono ?_
          rintro e w5 ⟨rfl, hb⟩
          have hGs := hGr.below hb
          have hbs := hbr.trans (hb.mono hbr.size)
          rw [HI.out]
          clear hb
          go_wp2_with fail
          with_reducible refine (isFree_any aG _ cG LL (tt + k) _ hGs.rd hGs.wf (by omega) HVL.out).mono ?_
          rintro e w6 ⟨rfl, hb⟩
          have hbt := hbs.trans (hb.mono hbs.size)
          rw [HJ.out]
          clear hb
          go_wp2
          go_roundw
          case rel => exact ⟨k + 1, by omega, by go_num, hbt⟩
          case measure => simp [intOf]; omega
        · go_wp2_with fail
          with_reducible refine (implSpaceValid_any aG _ cG LL _ hGr.rd hGr.wf (by omega)).mono ?_
          rintro e w5 ⟨rfl, hb⟩
          have hbe := hb4.trans ((hbr.trans (hb.mono hbr.size)).mono hb4.size)
          rw [HVL.out]
          clear hb
          go_wp2
          go_ret
          exact ⟨rfl, hbe⟩
    · have hbf : bb = false := by simpa using hbt
      subst hbf
      clear hok hmost hbt
      go_wp2_with fail
      with_reducible refine (sameSpace_self aG aW _ cG cW LL _ hG4.rd hW4.rd hG4.wf (by omega)).mono ?_
      rintro e w5 ⟨rfl, hb⟩
      have hb5 := hb4.trans (hb.mono hb4.size)
      clear hb
      go_wp2
      go_ret
      exact ⟨rfl, hb5⟩
  · go_enter Try.func6, Try.ntmps6
    go_wp2
    go_ret
    exact ⟨rfl, Below.refl _ _⟩

set_option maxHeartbeats 2000000 in
theorem FnTakeMost_walk (a : Option Addr) (n c : Nat) (w : World) (h : RdC w a n) (hc : n ≤ c) (hm : c ≤ maxLen) :
    Calls Try.prog 7 #[.slice a n c] w (Tr w) := by
  unfold maxLen at hm
  by_cases hn : n ≤ 1048576
  · skip
    go_enter Try.func7, Try.ntmps7
    go_wp2_with fail
    with_reducible refine (DrawSpaceTake_any a n c _ h hc hn).mono ?_
    rintro e w1 ⟨zs, a1, c1, t, rfl, hz, ht0, ht1, hO1, hb1⟩
    go_wp2_with fail
    with_reducible refine (implSpaceTake_any a1 zs.length c1 zs t _ hO1.rd hO1.wf (by omega)).mono ?_
    rintro e w2 ⟨aG, cG, rfl, hG2, hb⟩
    have hO2 := hO1.below hb
    have hb2 := hb1.trans (hb.mono hb1.size)
    clear hb hO1 hb1 h
    go_wp2_with fail
    with_reducible refine (specSpaceTake_any a1 zs.length c1 zs t _ hO2.rd hO2.wf (by omega)).mono ?_
    rintro e w3 ⟨aW, cW, rfl, hW3, hb⟩
    have hO3 := hO2.below hb
    have hG3 := hG2.below hb
    have hb3 := hb2.trans (hb.mono hb2.size)
    clear hb hO2 hG2 hb2
    have hlen := takeR_length zs t
    have hok := Lib.hid (@take_ok zs t)
    have hmost := Lib.hid (@take_most zs t)
    obtain ⟨LL, hLL⟩ : ∃ LL, (takeR zs t).1 = LL := ⟨_, rfl⟩
    obtain ⟨tt, htt⟩ : ∃ tt, (takeR zs t).2.1 = tt := ⟨_, rfl⟩
    obtain ⟨bb, hbb⟩ : ∃ bb, (takeR zs t).2.2 = bb := ⟨_, rfl⟩
    rw [hLL, htt, hbb] at hok
    rw [hbb] at hmost
    rw [hLL] at hlen hG3 hW3 ⊢
    rw [htt, hbb]
    clear hLL htt hbb
    have q1 : (bb != bb) = false := by simp
    have q2 : (tt != tt) = false := by simp
    have q3 : (bb == bb) = true := by simp
    have q4 : (tt == tt) = true := by simp
    go_wp2_with fail
    with_reducible refine (sameSpace_self aG aW _ cG cW LL _ hG3.rd hW3.rd hG3.wf (by omega)).mono ?_
    rintro e w4 ⟨rfl, hb⟩
    have hO4 := hO3.below hb
    have hG4 := hG3.below hb
    have hW4 := hW3.below hb
    have hb4 := hb3.trans (hb.mono hb3.size)
    clear hb hO3 hG3 hW3 hb3
    go_wp2_with fail
    with_reducible refine (specSpaceValid_any a1 _ c1 zs _ hO4.rd hO4.wf (by omega)).mono ?_
    rintro e w5 ⟨rfl, hb⟩
    have hO5 := hO4.below hb
    have hG5 := hG4.below hb
    have hW5 := hW4.below hb
    have hb5 := hb4.trans (hb.mono hb4.size)
    clear hb hO4 hG4 hW4 hb4
    by_cases hv : spaceV zs = true
    · have hmm := hmost.out hv
      have hmv : mostV zs = mostX zs := by simp [mostV, hv]
      have hbd := mostX_bound hv
      obtain ⟨mm, hmx⟩ : ∃ mm, mostX zs = mm := ⟨_, rfl⟩
      rw [hmx] at hmm hmv hbd
      obtain ⟨mb0, mb1⟩ := hbd
      have HMV := Lib.hid hmv
      have HMM := Lib.hid hmm
      rw [hv]
      clear hv hmm hmv hmx hok hmost
      by_cases h1 : 1 ≤ t
      · have d1 : decide (1 ≤ t) = true := by simpa using h1
        have hbb : Hid (bb = decide (t ≤ mm)) := Lib.hid (by rw [HMM.out, d1, Bool.true_and])
        go_wp2_with fail
        with_reducible refine (implSpaceMost_any a1 _ c1 zs _ hO5.rd hO5.wf (by omega)).mono ?_
        rintro e w6 ⟨rfl, hb⟩
        have hb6 := hb5.trans (hb.mono hb5.size)
        rw [HMV.out]
        clear hb
        have hbe := hbb.out
        subst hbe
        by_cases h2 : t ≤ mm
        · have d2 : decide (t ≤ mm) = true := by simpa using h2
          rw [d2]
          go_wp2
          go_ret
          exact ⟨rfl, hb6⟩
        · have d2 : decide (t ≤ mm) = false := by simpa using h2
          rw [d2]
          go_wp2
          go_ret
          exact ⟨rfl, hb6⟩
      · have d1 : decide (1 ≤ t) = false := by simpa using h1
        have hbb : bb = false := by rw [HMM.out, d1, Bool.false_and]
        subst hbb
        go_wp2
        go_ret
        exact ⟨rfl, hb5⟩
    · have hv' : spaceV zs = false := by simpa using hv
      rw [hv']
      clear hok hmost hv hv'
      go_wp2_with fail
      with_reducible refine (sameSpace_self aG aW _ cG cW LL _ hG5.rd hW5.rd hG5.wf (by omega)).mono ?_
      rintro e w6 ⟨rfl, hb⟩
      have hb6 := hb5.trans (hb.mono hb5.size)
      clear hb
      go_wp2
      go_ret
      exact ⟨rfl, hb6⟩
  · go_enter Try.func7, Try.ntmps7
    go_wp2
    go_ret
    exact ⟨rfl, Below.refl _ _⟩

set_option maxHeartbeats 2000000 in
theorem FnTakeFirst_walk (a : Option Addr) (n c : Nat) (w : World) (h : RdC w a n) (hc : n ≤ c) (hm : c ≤ maxLen) :
    Calls Try.prog 4 #[.slice a n c] w (Tr w) := by
  unfold maxLen at hm
  by_cases hn : n ≤ 1048576
  · skip
    go_enter Try.func4, Try.ntmps4
    go_wp2_with fail
    with_reducible refine (DrawSpaceTake_any a n c _ h hc hn).mono ?_
    rintro e w1 ⟨zs, a1, c1, t, rfl, hz, ht0, ht1, hO1, hb1⟩
    go_wp2_with fail
    with_reducible refine (implSpaceTake_any a1 zs.length c1 zs t _ hO1.rd hO1.wf (by omega)).mono ?_
    rintro e w2 ⟨aG, cG, rfl, hG2, hb⟩
    have hO2 := hO1.below hb
    have hb2 := hb1.trans (hb.mono hb1.size)
    clear hb hO1 hb1 h
    go_wp2_with fail
    with_reducible refine (specSpaceTake_any a1 zs.length c1 zs t _ hO2.rd hO2.wf (by omega)).mono ?_
    rintro e w3 ⟨aW, cW, rfl, hW3, hb⟩
    have hO3 := hO2.below hb
    have hG3 := hG2.below hb
    have hb3 := hb2.trans (hb.mono hb2.size)
    clear hb hO2 hG2 hb2
    have hlen := takeR_length zs t
    have hok := Lib.hid (@take_ok zs t)
    have hmost := Lib.hid (@take_most zs t)
    obtain ⟨LL, hLL⟩ : ∃ LL, (takeR zs t).1 = LL := ⟨_, rfl⟩
    obtain ⟨tt, htt⟩ : ∃ tt, (takeR zs t).2.1 = tt := ⟨_, rfl⟩
    obtain ⟨bb, hbb⟩ : ∃ bb, (takeR zs t).2.2 = bb := ⟨_, rfl⟩
    rw [hLL, htt, hbb] at hok
    rw [hbb] at hmost
    rw [hLL] at hlen hG3 hW3 ⊢
    rw [htt, hbb]
    clear hLL htt hbb
    have q1 : (bb != bb) = false := by simp
    have q2 : (tt != tt) = false := by simp
    have q3 : (bb == bb) = true := by simp
    have q4 : (tt == tt) = true := by simp
    go_wp2_with fail
    with_reducible refine (sameSpace_self aG aW _ cG cW LL _ hG3.rd hW3.rd hG3.wf (by omega)).mono ?_
    rintro e w4 ⟨rfl, hb⟩
    have hO4 := hO3.below hb
    have hG4 := hG3.below hb
    have hW4 := hW3.below hb
    have hb4 := hb3.trans (hb.mono hb3.size)
    clear hb hO3 hG3 hW3 hb3
    by_cases hbt : bb = true
    · subst hbt
      obtain ⟨hv, hm0, hm1, hr⟩ := hok.out rfl
      have hsp := takeX_spec hm0 hv hr
      simp only at hsp
      obtain ⟨hvL, htt0, htt1, hin, hout⟩ := hsp
      have HV := Lib.hid hv
      have HVL := Lib.hid (show spaceV LL = true from hvL)
      have HIN := Lib.hid hin
      have HOUT := Lib.hid hout
      have HR := Lib.hid hr
      clear hok hmost hv hvL hin hout hr
      have HF := Lib.hid (takeX_first HV.out HR.out)
      go_wp2_with fail
      go_loopw [11] (fun i wr => ∃ k : Nat, k ≤ zs.length ∧ i = .int .i64 k ∧ Below w4.heap.size w4 wr) (fun i _ => zs.length - (intOf i).toNat)
      case atStart => exact ⟨0, by omega, rfl, Below.refl _ _⟩
      case round =>
        obtain ⟨k, hk, rfl, hbr⟩ := hrel
        have hOr := hO4.below hbr
        by_cases hlt : k < zs.length
        · obtain ⟨b, off, rfl, hblt, f, q, hfm, cf, cm, _, _, _⟩ := hOr.rd.at_ hOr.wf hlt
          have hmem := getD_mem_pair hlt
          rw [hfm] at hmem
          have hft : f < tt → q < t := HF.out _ hmem
          have hk0 : (0 : Int) ≤ (k : Int) := by omega
          have hk1 : (k : Int) < (zs.length : Int) := by omega
          have hcase : decide (f < tt) = false ∨ (decide (f < tt) = true ∧ decide (t ≤ q) = false) := by
            by_cases h : f < tt
            · right; have := hft h; exact ⟨by simpa using h, by simp; omega⟩
            · left; simpa using h
          clear hft hfm hmem
          rcases hcase with d1 | ⟨d1, d2⟩
          all_goals
            go_wp2
            go_roundw
            case rel => exact ⟨k + 1, by omega, by go_num, hbr⟩
            case measure => simp [intOf]; omega
        · have hbe := hb4.trans (hbr.mono hb4.size)
          go_wp2
          go_ret
          exact ⟨rfl, hbe⟩
    · have hbf : bb = false := by simpa using hbt
      subst hbf
      clear hok hmost hbt
      go_wp2_with fail
      with_reducible refine (sameSpace_self aG aW _ cG cW LL _ hG4.rd hW4.rd hG4.wf (by omega)).mono ?_
      rintro e w5 ⟨rfl, hb⟩
      have hb5 := hb4.trans (hb.mono hb4.size)
      clear hb
      go_wp2
      go_ret
      exact ⟨rfl, hb5⟩
  · go_enter Try.func4, Try.ntmps4
    go_wp2
    go_ret
    exact ⟨rfl, Below.refl _ _⟩

set_option maxHeartbeats 2000000 in
theorem FnTakeOthers_walk (a : Option Addr) (n c : Nat) (a' : Option Addr) (n' c' : Nat) (w : World) (h : RdC w a n) (hc : n ≤ c) (hm : c ≤ maxLen) (h' : RdC w a' n') (hc' : n' ≤ c') (hm' : c' ≤ maxLen) :
    Calls Try.prog 8 #[.slice a n c, .slice a' n' c'] w (Tr w) := by
  unfold maxLen at hm hm'
  by_cases hnn : n ≤ 1048576 ∧ n' ≤ 1048576
  · obtain ⟨hn, hn'⟩ := hnn
    have t1 : decide ((1048576 : Int) < (n : Int)) = false := by simp; omega
    have t2 : decide ((1048576 : Int) < (n' : Int)) = false := by simp; omega
    go_enter Try.func8, Try.ntmps8
    go_wp2_with fail
    with_reducible refine (DrawSpaceTake_any a n c _ h hc hn).mono ?_
    rintro e w1 ⟨zs, a1, c1, t, rfl, hz, ht0, ht1, hO1, hb1⟩
    go_wp2_with fail
    with_reducible refine (implSpaceTake_any a1 zs.length c1 zs t _ hO1.rd hO1.wf (by omega)).mono ?_
    rintro e w2 ⟨aG, cG, rfl, hG2, hb⟩
    have hO2 := hO1.below hb
    have hb2 := hb1.trans (hb.mono hb1.size)
    clear hb hO1 hb1 h
    go_wp2_with fail
    with_reducible refine (specSpaceTake_any a1 zs.length c1 zs t _ hO2.rd hO2.wf (by omega)).mono ?_
    rintro e w3 ⟨aW, cW, rfl, hW3, hb⟩
    have hO3 := hO2.below hb
    have hG3 := hG2.below hb
    have hb3 := hb2.trans (hb.mono hb2.size)
    clear hb hO2 hG2 hb2
    have hlen := takeR_length zs t
    have hok := Lib.hid (@take_ok zs t)
    have hmost := Lib.hid (@take_most zs t)
    obtain ⟨LL, hLL⟩ : ∃ LL, (takeR zs t).1 = LL := ⟨_, rfl⟩
    obtain ⟨tt, htt⟩ : ∃ tt, (takeR zs t).2.1 = tt := ⟨_, rfl⟩
    obtain ⟨bb, hbb⟩ : ∃ bb, (takeR zs t).2.2 = bb := ⟨_, rfl⟩
    rw [hLL, htt, hbb] at hok
    rw [hbb] at hmost
    rw [hLL] at hlen hG3 hW3 ⊢
    rw [htt, hbb]
    clear hLL htt hbb
    have q1 : (bb != bb) = false := by simp
    have q2 : (tt != tt) = false := by simp
    have q3 : (bb == bb) = true := by simp
    have q4 : (tt == tt) = true := by simp
    go_wp2_with fail
    with_reducible refine (sameSpace_self aG aW _ cG cW LL _ hG3.rd hW3.rd hG3.wf (by omega)).mono ?_
    rintro e w4 ⟨rfl, hb⟩
    have hO4 := hO3.below hb
    have hG4 := hG3.below hb
    have hW4 := hW3.below hb
    have hb4 := hb3.trans (hb.mono hb3.size)
    clear hb hO3 hG3 hW3 hb3
    by_cases hbt : bb = true
    · subst hbt
      obtain ⟨hv, hm0, hm1, hr⟩ := hok.out rfl
      have hsp := takeX_spec hm0 hv hr
      simp only at hsp
      obtain ⟨hvL, htt0, htt1, hin, hout⟩ := hsp
      have HV := Lib.hid hv
      have HVL := Lib.hid (show spaceV LL = true from hvL)
      have HIN := Lib.hid hin
      have HOUT := Lib.hid hout
      have HR := Lib.hid hr
      clear hok hmost hv hvL hin hout hr
      have hsum := takeX_sum HR.out
      simp only at hsum
      have hsb := sumX_bound HV.out (by omega)
      obtain ⟨sm, hsm⟩ : ∃ sm, sumX zs = sm := ⟨_, rfl⟩
      rw [hsm] at hsum hsb
      obtain ⟨sb0, sb1⟩ := hsb
      have HFZ : Hid (freeV zs = sm) := Lib.hid (by rw [freeV, if_pos HV.out, hsm])
      have HFL : Hid (freeV LL = sm - t) := Lib.hid (by rw [freeV, if_pos HVL.out, hsum])
      have hsb2 := sumX_bound HVL.out (by omega)
      rw [hsum] at hsb2
      obtain ⟨sb2, sb3⟩ := hsb2
      clear hsum hsm
      have hcase : (Hid (inS LL ((n' : Int) % 100) = inS zs ((n' : Int) % 100)) ∧ (decide (((n' : Int) % 100) < tt) = true ∨ (decide (((n' : Int) % 100) < tt) = false ∧ decide (tt + t ≤ ((n' : Int) % 100)) = true))) ∨ (decide (((n' : Int) % 100) < tt) = false ∧ decide (tt + t ≤ ((n' : Int) % 100)) = false) := by
        by_cases h1 : ((n' : Int) % 100) < tt
        · left
          refine ⟨Lib.hid ?_, .inl (by simpa using h1)⟩
          rw [HOUT.out]
          have e1 : decide (tt ≤ ((n' : Int) % 100)) = false := by simp; omega
          rw [e1]; simp
        · by_cases h2 : tt + t ≤ ((n' : Int) % 100)
          · left
            refine ⟨Lib.hid ?_, .inr ⟨by simpa using h1, by simpa using h2⟩⟩
            rw [HOUT.out]
            have e1 : decide (((n' : Int) % 100) < tt + t) = false := by simp; omega
            rw [e1]; simp
          · right; exact ⟨by simpa using h1, by simpa using h2⟩
      rcases hcase with ⟨HE, hd⟩ | ⟨d1, d2⟩
      · obtain ⟨b0, hb0⟩ : ∃ b0, inS zs ((n' : Int) % 100) = b0 := ⟨_, rfl⟩
        have HB0 := Lib.hid hb0
        have HE2 : Hid (inS LL ((n' : Int) % 100) = b0) := Lib.hid (by rw [HE.out, hb0])
        have qb : (b0 == b0) = true := by simp
        clear hb0 HE
        rcases hd with d1 | ⟨d1, d2⟩
        all_goals
          go_wp2_with fail
          with_reducible refine (isFree_any aG _ cG LL ((n' : Int) % 100) _ hG4.rd hG4.wf (by omega) HVL.out).mono ?_
          rintro e w5 ⟨rfl, hb⟩
          have hO5 := hO4.below hb
          have hG5 := hG4.below hb
          have hb5 := hb4.trans (hb.mono hb4.size)
          rw [HE2.out]
          clear hb
          go_wp2_with fail
          with_reducible refine (isFree_any a1 _ c1 zs ((n' : Int) % 100) _ hO5.rd hO5.wf (by omega) HV.out).mono ?_
          rintro e w6 ⟨rfl, hb⟩
          have hO6 := hO5.below hb
          have hG6 := hG5.below hb
          have hb6 := hb5.trans (hb.mono hb5.size)
          rw [HB0.out]
          clear hb
          go_wp2_with fail
          with_reducible refine (implSpaceFree_any aG _ cG LL _ hG6.rd hG6.wf (by omega)).mono ?_
          rintro e w7 ⟨rfl, hb⟩
          have hO7 := hO6.below hb
          have hb7 := hb6.trans (hb.mono hb6.size)
          clear hb
          go_wp2_with fail
          with_reducible refine (implSpaceFree_any a1 _ c1 zs _ hO7.rd hO7.wf (by omega)).mono ?_
          rintro e w8 ⟨rfl, hb⟩
          have hb8 := hb7.trans (hb.mono hb7.size)
          rw [HFL.out, HFZ.out]
          clear hb
          have qs : (sm - t == sm - t) = true := by simp
          go_wp2
          go_ret
          exact ⟨rfl, hb8⟩
      · go_wp2_with fail
        with_reducible refine (implSpaceFree_any aG _ cG LL _ hG4.rd hG4.wf (by omega)).mono ?_
        rintro e w5 ⟨rfl, hb⟩
        have hO5 := hO4.below hb
        have hb5 := hb4.trans (hb.mono hb4.size)
        clear hb
        go_wp2_with fail
        with_reducible refine (implSpaceFree_any a1 _ c1 zs _ hO5.rd hO5.wf (by omega)).mono ?_
        rintro e w6 ⟨rfl, hb⟩
        have hb6 := hb5.trans (hb.mono hb5.size)
        rw [HFL.out, HFZ.out]
        clear hb
        have qs : (sm - t == sm - t) = true := by simp
        go_wp2
        go_ret
        exact ⟨rfl, hb6⟩
    · have hbf : bb = false := by simpa using hbt
      subst hbf
      clear hok hmost hbt
      go_wp2_with fail
      with_reducible refine (sameSpace_self aG aW _ cG cW LL _ hG4.rd hW4.rd hG4.wf (by omega)).mono ?_
      rintro e w5 ⟨rfl, hb⟩
      have hb5 := hb4.trans (hb.mono hb4.size)
      clear hb
      go_wp2
      go_ret
      exact ⟨rfl, hb5⟩
  · by_cases h1 : n ≤ 1048576
    · have t1 : decide ((1048576 : Int) < (n : Int)) = false := by simp; omega
      have t2 : decide ((1048576 : Int) < (n' : Int)) = true := by simp; omega
      go_enter Try.func8, Try.ntmps8
      go_wp2
      go_ret
      exact ⟨rfl, Below.refl _ _⟩
    · have t1 : decide ((1048576 : Int) < (n : Int)) = true := by simp; omega
      go_enter Try.func8, Try.ntmps8
      go_wp2
      go_ret
      exact ⟨rfl, Below.refl _ _⟩

set_option maxHeartbeats 2000000 in
theorem FnMostTake_walk (a : Option Addr) (n c : Nat) (w : World) (h : RdC w a n) (hc : n ≤ c) (hm : c ≤ maxLen) :
    Calls Try.prog 3 #[.slice a n c] w (Tr w) := by
  unfold maxLen at hm
  by_cases hn : n ≤ 1048576
  · skip
    go_enter Try.func3, Try.ntmps3
    go_wp2_with fail
    with_reducible refine (DrawSpaceMost_any a n c _ h hc hn).mono ?_
    rintro e w1 ⟨zs, a1, c1, rfl, hz, hO1, hb1⟩
    go_wp2_with fail
    with_reducible refine (implSpaceMost_any a1 zs.length c1 zs _ hO1.rd hO1.wf (by omega)).mono ?_
    rintro e w2 ⟨rfl, hb⟩
    have hO2 := hO1.below hb
    have hb2 := hb1.trans (hb.mono hb1.size)
    clear hb hO1 hb1 h
    go_wp2_with fail
    with_reducible refine (specSpaceMost_any a1 zs.length c1 zs _ hO2.rd hO2.wf (by omega)).mono ?_
    rintro e w3 ⟨rfl, hb⟩
    have hO3 := hO2.below hb
    have hb3 := hb2.trans (hb.mono hb2.size)
    clear hb hO2 hb2
    have hmt := Lib.hid (@most_take zs)
    have hmv := Lib.hid (show mostV zs = if spaceV zs = true then mostX zs else -1 from rfl)
    have hml := takeR_length zs (mostV zs)
    obtain ⟨mm, hmm⟩ : ∃ mm, mostV zs = mm := ⟨_, rfl⟩
    rw [hmm] at hmv hml ⊢
    have q1 : (mm != mm) = false := by simp
    have q3 : (mm == mm) = true := by simp
    have HMM := Lib.hid hmm
    clear hmm
    by_cases h1 : mm < 1
    · go_wp2
      go_ret
      exact ⟨rfl, hb3⟩
    · have hv : spaceV zs = true := by
        cases hc : spaceV zs with
        | true => rfl
        | false => have := hmv.out; rw [hc] at this; simp at this; omega
      have he : mostX zs = mm := by have := hmv.out; rw [if_pos hv] at this; exact this.symm
      obtain ⟨e1, e2, e3, e4⟩ := hmt.out hv (by omega)
      rw [he] at e1 e2 e3 e4
      have hbm := (mostX_bound e3).1
      have HV := Lib.hid hv
      have H1 := Lib.hid e1
      obtain ⟨LL, hLL⟩ : ∃ LL, (takeR zs mm).1 = LL := ⟨_, rfl⟩
      rw [hLL] at e2 e3 e4 hml hbm
      have hmvL : mostV LL = mostX LL := by simp [mostV, e3]
      obtain ⟨ml, hml2⟩ : ∃ ml, mostX LL = ml := ⟨_, rfl⟩
      rw [hml2] at hmvL e4 hbm
      have HMVL := Lib.hid hmvL
      have HLL := Lib.hid hLL
      have hlen : Hid (zs.length = LL.length + 1) := Lib.hid e2.symm
      have hz1 : 1 ≤ zs.length := by omega
      have hzl : Hid (((LL.length : Int) == (zs.length : Int) - 1) = true) := Lib.hid (by rw [beq_iff_eq]; omega)
      have d4 : decide (ml ≤ mm) = true := by simpa using e4
      clear hv he e1 e2 e3 hLL hmvL hml2 hmt hmv
      go_wp2_with fail
      with_reducible refine (implSpaceTake_any a1 zs.length c1 zs mm _ hO3.rd hO3.wf (by omega)).mono ?_
      rw [HLL.out, H1.out]
      rintro e w4 ⟨aG, cG, rfl, hG4, hb⟩
      have hb4 := hb3.trans (hb.mono hb3.size)
      clear hb
      have HZ := hzl.out
      go_wp2_with fail
      with_reducible refine (implSpaceMost_any aG _ cG LL _ hG4.rd hG4.wf (by omega)).mono ?_
      rintro e w5 ⟨rfl, hb⟩
      have hb5 := hb4.trans (hb.mono hb4.size)
      rw [HMVL.out]
      clear hb
      go_wp2
      go_ret
      exact ⟨rfl, hb5⟩
  · go_enter Try.func3, Try.ntmps3
    go_wp2
    go_ret
    exact ⟨rfl, Below.refl _ _⟩

end Go.Proofs.Ytemamlgpbcnfjaa
