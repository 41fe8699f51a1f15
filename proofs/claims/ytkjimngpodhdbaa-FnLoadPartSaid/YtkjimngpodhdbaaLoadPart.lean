/- Walk of FnLoadPart. -/
import Derived.Test.YtkjimngpodhdbaaFileLoad
import Derived.Test.YtkjimngpodhdbaaDrawLoad
import Derived.Test.YtkjimngpodhdbaaTr
import Derived.IntWalk
namespace Go.Proofs.Ytkjimngpodhdbaa
open Go.RowKit
set_option linter.unusedVariables false

theorem RdI.take {w : World} {a : Option Addr} {n : Nat} {zs : List Int} (h : RdI w a n zs) {k : Nat} (hk : k ≤ n) : RdI w a k (zs.take k) := by
  refine ⟨by rw [List.length_take, h.1]; omega, fun i hi => ?_⟩
  obtain ⟨b, off, rfl, hlt, hc⟩ := h.2 i (by omega)
  refine ⟨b, off, rfl, hlt, fun j hj => ?_⟩
  rw [hc j (by omega)]
  simp [List.getD, hj]

theorem eqI_same (xs : List Int) : eqI xs xs = true := by simp [eqI]

set_option maxHeartbeats 4000000 in
theorem FnLoadPart_walk (a : Option Addr) (n c : Nat) (a' : Option Addr) (n' c' : Nat) (w : World) (h : RdC w a n) (hc : n ≤ c) (hm : c ≤ maxLen) (h' : RdC w a' n') (hc' : n' ≤ c') (hm' : c' ≤ maxLen) :
    Calls Try.prog 7 #[.slice a n c, .slice a' n' c'] w (Tr w) := by
  unfold maxLen at hm hm'
  by_cases hnn : n ≤ 1048576 ∧ n' ≤ 1048576
  · obtain ⟨hn, hn'⟩ := hnn
    have t1 : decide ((1048576 : Int) < (n : Int)) = false := by simp; omega
    have t2 : decide ((1048576 : Int) < (n' : Int)) = false := by simp; omega
    go_enter Try.func7, Try.ntmps7
    go_wp2_with fail
    with_reducible refine (DrawFileLoad_any a n c _ h hc hn).mono ?_
    rintro e w1 ⟨xs, a1, c1, is, a2, c2, rfl, hx16, hx8, hR1, hI1, hD1, his, hb1⟩
    obtain ⟨N, hN⟩ : ∃ N, xs.length = N := ⟨_, rfl⟩
    obtain ⟨L, hL⟩ : ∃ L, is.length = L := ⟨_, rfl⟩
    have HN := Lib.hid hN
    have HL := Lib.hid hL
    have HX8 := Lib.hid hx8
    have HWI := Lib.hid hD1.wf
    have hcap := hR1.cap
    have hcapI := hD1.cap
    unfold maxLen at hcap hcapI
    rw [hN] at hx16 hcap
    rw [hL] at his hcapI
    have hrx : RdR eltH w1 a1 N xs := by have := hR1.rd; rwa [hN] at this
    have hri : RdI w1 a2 L is := by have := hD1.rd; rwa [hL] at this
    rw [hN, hL]
    obtain ⟨LL, hLL⟩ : ∃ LL, (loadR (valsH xs) is).1 = LL := ⟨_, rfl⟩
    obtain ⟨bb, hbb⟩ : ∃ bb, (loadR (valsH xs) is).2 = bb := ⟨_, rfl⟩
    have HR := Lib.hid (show loadR (valsH xs) is = (LL, bb) by rw [← hLL, ← hbb])
    have HLn := Lib.hid (show LL.length ≤ 32 by rw [← hLL]; exact loadR_len _ _)
    have K1 : ∀ W, Below w1.heap.size w1 W → Calls Try.prog 22 #[.slice a1 N c1, .slice a2 L c2] W (RetIB W LL bb) := by
      intro W hb
      have := implFileLoad_any a1 N c1 xs a2 L c2 is W (hrx.below hb) (hI1.below hb) (fun x hx => by have := HX8.out x hx; omega) hcap.1 (by omega) (hri.below hb) HWI.out (by omega)
      rwa [hLL, hbb] at this
    have K2 : ∀ W, Below w1.heap.size w1 W → Calls Try.prog 20 #[.slice a1 N c1, .slice a2 L c2] W (RetIB W LL bb) := by
      intro W hb
      have := specFileLoad_any a1 N c1 xs a2 L c2 is W (hrx.below hb) (hI1.below hb) (fun x hx => by have := HX8.out x hx; omega) (by omega) (hri.below hb) (by omega)
      rwa [hLL, hbb] at this
    have K3 : ∀ k, k ≤ L → ∀ M, loadR (valsH xs) (is.take k) = (M, true) → ∀ W c3, Below w1.heap.size w1 W → Calls Try.prog 22 #[.slice a1 N c1, .slice a2 k c3] W (RetIB W M true) := by
      intro k hk M hM W c3 hb
      have := implFileLoad_any a1 N c1 xs a2 k c3 (is.take k) W (hrx.below hb) (hI1.below hb) (fun x hx => by have := HX8.out x hx; omega) hcap.1 (by omega) ((hri.take hk).below hb) (fun z hz => HWI.out z (List.mem_of_mem_take hz)) (by omega)
      rwa [hM] at this
    have HK2 := Lib.hid K2
    have HK3 := Lib.hid K3
    have hnil : a2 = none → L = 0 ∧ c2 = 0 := by
      intro e
      rw [e] at hD1
      have := own_none hD1
      rw [this.1] at hL
      exact ⟨by simpa using hL.symm, this.2⟩
    have HNIL := Lib.hid hnil
    have K := K1 w1 (Below.refl _ _)
    clear hLL hbb hN hL hx8 K1 K2 K3 hnil hR1 hI1 hD1 hrx hri h
    go_wp2_with fail
    with_reducible refine K.mono ?_
    rintro e w2 ⟨aG, cG, rfl, hG2, hb12⟩
    have hb2 := hb1.trans (hb12.mono hb1.size)
    have K := HK2.out w2 hb12
    go_wp2_with fail
    with_reducible refine K.mono ?_
    rintro e w3 ⟨aW, cW, rfl, hW3, hb23⟩
    have hb13 := hb12.trans (hb23.mono hb12.size)
    have hb3 := hb2.trans (hb23.mono hb2.size)
    have hG3 := hG2.below hb23
    have tq : (bb != bb) = false := by simp
    have tq2 : (bb == bb) = true := by simp
    have hl32 := HLn.out
    have KS := sameInts_any aG aW LL.length LL.length cG cW LL LL w3 hG3.rd hW3.rd (by omega) (by omega)
    rw [eqI_same] at KS
    clear hb12 hb2 hb23 hG2 K
    go_wp2_with fail
    with_reducible refine KS.mono ?_
    rintro e w4 ⟨rfl, q, hq⟩
    have hb34 : Below w3.heap.size w3 w4 := by rw [hq]; exact below_drewNH (Below.refl _ _) _
    have hb4 := hb3.trans (hb34.mono hb3.size)
    have hb14 := hb13.trans (hb34.mono hb13.size)
    have hG4 := hG3.below hb34
    have hW4 := hW3.below hb34
    clear hq KS hb34 hb3 hb13 hG3 hW3
    cases bb with
    | false =>
      have KS := sameInts_any aG aW LL.length LL.length cG cW LL LL w4 hG4.rd hW4.rd (by omega) (by omega)
      rw [eqI_same] at KS
      go_wp2_with fail
      with_reducible refine KS.mono ?_
      rintro e w5 ⟨rfl, q, hq⟩
      have hb45 : Below w4.heap.size w4 w5 := by rw [hq]; exact below_drewNH (Below.refl _ _) _
      have hb5 := hb4.trans (hb45.mono hb4.size)
      clear hq KS hb45 hG4 hW4
      go_wp2
      go_ret
      exact ⟨rfl, hb5⟩
    | true =>
      obtain ⟨k, hk⟩ : ∃ k, n' % (L + 1) = k := ⟨_, rfl⟩
      have hkl : k ≤ L := by have := Nat.mod_lt n' (show 0 < L + 1 by omega); omega
      have ek : (n' : Int) % ((L : Int) + 1) = (k : Int) := by rw [← hk]; simp
      have ek2 : (n' : Int).tmod ((L : Int) + 1) = (k : Int) := by rw [Int.tmod_eq_emod_of_nonneg (by omega)]; exact ek
      have hne : ¬ (L : Int) + 1 = 0 := by omega
      have hk0 : (0 : Int) ≤ (k : Int) := by omega
      have hkc : (k : Int) ≤ (c2 : Int) := by omega
      obtain ⟨M, hM, hMl, hMt⟩ := load_part HR.out k
      have K := HK3.out k hkl M hM w4 c2 hb14
      have HMt := Lib.hid hMt
      have hMl' : (M.length : Int) ≤ (LL.length : Int) := by omega
      clear hk hM hMt hW4 tq tq2
      cases a2 with
      | none =>
        obtain ⟨hL0, hc0⟩ := HNIL.out rfl
        subst hL0 hc0
        obtain rfl : k = 0 := by omega
        go_wp2_with fail
        have hcapG := hG4.cap
        with_reducible refine K.mono ?_
        rintro e w5 ⟨aX, cX, rfl, hX5, hb45⟩
        have hb5 := hb4.trans (hb45.mono hb4.size)
        have hG5 := hG4.below hb45
        clear K hb45 hG4
        cases aG with
        | none =>
          have hg0 := own_none hG5
          obtain ⟨hg1, hg2⟩ := hg0
          subst hg1 hg2
          have hM0 : M.length = 0 := by simpa using hMl
          obtain rfl : M = [] := List.length_eq_zero_iff.1 hM0
          have KS := sameInts_any none aX 0 0 0 cX [] [] w5 hG5.rd hX5.rd (by omega) (by omega)
          rw [eqI_same] at KS
          clear hG5 hX5
          go_wp2_with fail
          with_reducible refine KS.mono ?_
          rintro e w6 ⟨rfl, q, hq⟩
          have hb6 := hb5.trans (show Below w.heap.size w5 w6 by rw [hq]; exact below_drewNH (Below.refl _ _) _)
          clear hq KS
          go_wp2
          go_ret
          exact ⟨rfl, hb6⟩
        | some adG =>
          have hM0 : (0 : Int) ≤ (M.length : Int) := by omega
          have hMc : (M.length : Int) ≤ (cG : Int) := by have := hcapG.1; omega
          have hd : decide ((M.length : Int) ≤ (LL.length : Int)) = true := by simpa using hMl
          have KS := sameInts_any (some adG) aX M.length M.length cG cX (LL.take M.length) M w5 (hG5.rd.take hMl) hX5.rd (by omega) (by omega)
          rw [HMt.out, eqI_same] at KS
          clear hG5 hX5
          go_wp2_with fail
          with_reducible refine KS.mono ?_
          rintro e w6 ⟨rfl, q, hq⟩
          have hb6 := hb5.trans (show Below w.heap.size w5 w6 by rw [hq]; exact below_drewNH (Below.refl _ _) _)
          clear hq KS
          go_wp2
          go_ret
          exact ⟨rfl, hb6⟩
      | some ad =>
        go_wp2_with fail
        have hcapG := hG4.cap
        with_reducible refine K.mono ?_
        rintro e w5 ⟨aX, cX, rfl, hX5, hb45⟩
        have hb5 := hb4.trans (hb45.mono hb4.size)
        have hG5 := hG4.below hb45
        clear K hb45 hG4
        cases aG with
        | none =>
          have hg0 := own_none hG5
          obtain ⟨hg1, hg2⟩ := hg0
          subst hg1 hg2
          have hM0 : M.length = 0 := by simpa using hMl
          obtain rfl : M = [] := List.length_eq_zero_iff.1 hM0
          have KS := sameInts_any none aX 0 0 0 cX [] [] w5 hG5.rd hX5.rd (by omega) (by omega)
          rw [eqI_same] at KS
          clear hG5 hX5
          go_wp2_with fail
          with_reducible refine KS.mono ?_
          rintro e w6 ⟨rfl, q, hq⟩
          have hb6 := hb5.trans (show Below w.heap.size w5 w6 by rw [hq]; exact below_drewNH (Below.refl _ _) _)
          clear hq KS
          go_wp2
          go_ret
          exact ⟨rfl, hb6⟩
        | some adG =>
          have hM0 : (0 : Int) ≤ (M.length : Int) := by omega
          have hMc : (M.length : Int) ≤ (cG : Int) := by have := hcapG.1; omega
          have hd : decide ((M.length : Int) ≤ (LL.length : Int)) = true := by simpa using hMl
          have KS := sameInts_any (some adG) aX M.length M.length cG cX (LL.take M.length) M w5 (hG5.rd.take hMl) hX5.rd (by omega) (by omega)
          rw [HMt.out, eqI_same] at KS
          clear hG5 hX5
          go_wp2_with fail
          with_reducible refine KS.mono ?_
          rintro e w6 ⟨rfl, q, hq⟩
          have hb6 := hb5.trans (show Below w.heap.size w5 w6 by rw [hq]; exact below_drewNH (Below.refl _ _) _)
          clear hq KS
          go_wp2
          go_ret
          exact ⟨rfl, hb6⟩
  · by_cases h1 : n ≤ 1048576
    · have t1 : decide ((1048576 : Int) < (n : Int)) = false := by simp; omega
      have t2 : decide ((1048576 : Int) < (n' : Int)) = true := by simp; omega
      go_enter Try.func7, Try.ntmps7
      go_wp2
      go_ret
      exact ⟨rfl, Below.refl _ _⟩
    · have t1 : decide ((1048576 : Int) < (n : Int)) = true := by simp; omega
      go_enter Try.func7, Try.ntmps7
      go_wp2
      go_ret
      exact ⟨rfl, Below.refl _ _⟩

end Go.Proofs.Ytkjimngpodhdbaa
