/- Walks of the laws on paths. -/
import Derived.Test.YtlckbjflddmjgaaDoorDrawPath
import Derived.Test.YtlckbjflddmjgaaDoorSameT
import Derived.Test.YtlckbjflddmjgaaDoorPlainPath3
import Derived.Test.YtlckbjflddmjgaaDoorPathImpl2
import Derived.Test.YtlckbjflddmjgaaDoorTr
import Derived.OwnWalk
namespace Go.Proofs.YtlckbjflddmjgaaDoor
open Go.RowKit
set_option linter.unusedVariables false

theorem OwnS.rdL {w : World} {B : Nat} {a : Option Addr} {c L : Nat} {ss : List ByteArray} (h : OwnS w B a c ss) (hL : ss.length = L) : RdS w a L ss := hL ▸ h.rd

theorem RdS.pre {w : World} {a : Option Addr} {n m : Nat} {ss : List ByteArray} (h : RdS w a n ss) (hm : m ≤ n) : RdS w a m (ss.take m) := by
  refine ⟨by rw [List.length_take, h.1]; omega, fun i hi => ?_⟩
  obtain ⟨b, off, rfl, hlt, hc⟩ := h.2 i (by omega)
  refine ⟨b, off, rfl, hlt, fun j hj => ?_⟩
  rw [hc j (by omega)]
  simp [List.getD_eq_getElem?_getD, hj]

theorem partsS_le (s : ByteArray) : (partsS s).length ≤ s.size + 1 := by
  have h2 := cutL_length (bts s)
  rw [bts_length] at h2
  rw [partsS_lenR]
  unfold partsR
  split
  · omega
  · simp

set_option maxHeartbeats 2000000 in
theorem FnParts_walk (a : Option Addr) (n c : Nat) (w : World) (h : RdC w a n) (hc : n ≤ c) (hmx : c ≤ maxLen) (hm : MLen w) :
    Calls Tryd.prog 3 #[.slice a n c] w (Tr w) := by
  unfold maxLen at hmx
  by_cases hn : n ≤ 1048576
  · skip
    go_enter Tryd.func3, Tryd.ntmps3
    go_wp2_with fail
    with_reducible refine (DrawPathParts_any a n c _ h hc hn).mono ?_
    rintro e w1 ⟨s, rfl, hs, hb⟩
    have hb1 := hb
    have hm1 := hm.below hb
    clear hb 
    clear h hm
    go_wp2_with fail
    with_reducible refine (implPathParts_any s _ hm1 (by omega)).mono ?_
    rintro e w2 ⟨aG, cG, rfl, hG2, hb⟩
    have hb2 := hb1.trans (hb.mono hb1.size)
    have hm2 := hm1.below hb
    clear hb hb1 hm1
    go_wp2_with fail
    with_reducible refine (specPathParts_any s _ (by omega)).mono ?_
    rintro e w3 ⟨aW, cW, rfl, hW3, hb⟩
    have hb3 := hb2.trans (hb.mono hb2.size)
    have hm3 := hm2.below hb
    have hG3 := hG2.below hb
    clear hb hG2 hb2 hm2
    obtain ⟨PS, hPS⟩ : ∃ PS, partsS s = PS := ⟨_, rfl⟩
    have HP := Lib.hid hPS
    rw [hPS] at hG3 hW3 ⊢
    obtain ⟨L, hL⟩ : ∃ L, PS.length = L := ⟨_, rfl⟩
    rw [hL]
    have hL17 : L ≤ 17 := by
      have h1 := partsS_le s
      rw [hPS, hL] at h1
      omega
    have HL := Lib.hid hL
    clear hPS
    go_wp2_with fail
    with_reducible refine (sameTexts_self aG aW L cG cW PS _ (hG3.rdL hL) (hW3.rdL hL) (by omega)).mono ?_
    rintro e w4 ⟨rfl, hb⟩
    have hb4 := hb3.trans (hb.mono hb3.size)
    have hm4 := hm3.below hb
    have hG4 := hG3.below hb
    have hW4 := hW3.below hb
    clear hb hG3 hW3 hb3 hm3

    by_cases hv : pathV (bts s) = true
    · have hps : PS = cutS s := by rw [← HP.out]; exact partsS_yes hv
      obtain ⟨hp0, hp4⟩ := partsS_pos hv
      rw [HP.out, hL] at hp0 hp4
      have hlz : ((L : Int) == 0) = false := by simp; omega
      have HC := Lib.hid hps
      have hrd := Lib.hid (hG4.rdL hL)
      obtain ⟨b, off, rfl, hbl, x0, hx0, hcell⟩ := hrd.out.at_ (i := 0) (by omega)
      simp only [Nat.add_zero] at hcell
      have HX : Hid (bts x0 = joinL ((cutL (bts s)).take 1)) := Lib.hid (by rw [← hx0, hps]; exact join_start)
      have hx16 : x0.size ≤ 16 := by
        have := part_size (s := s) (x := x0) (by rw [← hx0, hps]; exact cutS_at s 0 (by rw [← hps, hL]; omega))
        omega
      have hz1 : (0 : Int) < (L : Int) := by omega
      have HV := Lib.hid hv
      clear hx0 hps hv hW4
      go_wp2
      go_loopw [6, 7] (fun x i wr => ∃ k : Nat, 1 ≤ k ∧ k ≤ L ∧ i = .int .i64 k ∧ ∃ t : ByteArray, x = .string t ∧ t.size ≤ 17 * k ∧ Hid (bts t = joinL ((cutL (bts s)).take k)) ∧ Below w4.heap.size w4 wr)
        (fun _ i _ => L - (intOf i).toNat)
      case atStart => exact ⟨1, Nat.le_refl _, by omega, rfl, x0, rfl, by omega, HX, Below.refl _ _⟩
      case round =>
        obtain ⟨k, hk1, hk, rfl, t, rfl, hts, ht, hb⟩ := hrel
        by_cases hlt : k < L
        · obtain ⟨b2, off2, hbo, _, x, hx, hcell2⟩ := (hrd.out.below hb).at_ hlt
          injection hbo with hbo
          injection hbo with hbo1 hbo2
          subst hbo1 hbo2
          have hkc : k < (cutS s).length := by rw [← HC.out, HL.out]; exact hlt
          have HT : Hid (bts (t ++ ⟨#[47]⟩ ++ x) = joinL ((cutL (bts s)).take (k + 1))) := Lib.hid (by rw [← hx, HC.out]; exact join_step hk1 hkc ht.out)
          have hx16 : x.size ≤ 16 := by
            have := part_size (s := s) (x := x) (by rw [← hx, HC.out]; exact cutS_at s k hkc)
            omega
          have hi0 : (0 : Int) ≤ (k : Int) := by omega
          have hi1 : (k : Int) < (L : Int) := by omega
          have hsz : (t ++ ⟨#[47]⟩ ++ x).size ≤ 17 * (k + 1) := by rw [ByteArray.size_append, ByteArray.size_append]; show t.size + 1 + x.size ≤ _; omega
          clear hx
          go_wp2
          go_roundw
          case rel => exact ⟨k + 1, by omega, by omega, by go_num, _, rfl, hsz, HT, hb⟩
          case measure => simp [intOf]; omega
        · obtain rfl : k = L := by omega
          have hte : bts t = bts s := join_end (by rw [← HC.out, HL.out]; exact ht.out)
          have te := eqT hte
          have d4 : decide ((k : Int) ≤ 4) = true := by simp; omega
          clear hte
          go_wp2_with fail
          with_reducible refine (implPathValid_any s _ (hm4.below hb) (by omega)).mono ?_
          rintro e w5 ⟨rfl, hb5⟩
          rw [HV.out]
          go_wp2
          go_ret
          exact ⟨rfl, hb4.trans ((hb.trans (hb5.mono hb.size)).mono hb4.size)⟩
    · have hv' : pathV (bts s) = false := by simpa using hv
      have hps : PS = [] := by rw [← HP.out]; exact partsS_no hv'
      have hL0 : L = 0 := by rw [← hL, hps]; rfl
      subst hL0
      clear hv hv'
      go_wp2_with fail
      with_reducible refine (sameTexts_self aG aW 0 cG cW PS _ (hG4.rdL hL) (hW4.rdL hL) (by omega)).mono ?_
      rintro e w5 ⟨rfl, hb⟩
      go_wp2
      go_ret
      exact ⟨rfl, hb4.trans (hb.mono hb4.size)⟩
  · have hbig : 1048576 < n := by omega
    go_enter Tryd.func3, Tryd.ntmps3
    go_wp2
    go_ret
    exact ⟨rfl, Below.refl _ _⟩

set_option maxHeartbeats 1000000 in
theorem FnPartsNot_walk (a : Option Addr) (n c : Nat) (w : World) (h : RdC w a n) (hc : n ≤ c) (hmx : c ≤ maxLen) (hm : MLen w) :
    Calls Tryd.prog 4 #[.slice a n c] w (Tr w) := by
  unfold maxLen at hmx
  by_cases hn : n ≤ 1048576
  · skip
    go_enter Tryd.func4, Tryd.ntmps4
    go_wp2_with fail
    with_reducible refine (DrawPathParts_any a n c _ h hc hn).mono ?_
    rintro e w1 ⟨s, rfl, hs, hb⟩
    have hb1 := hb
    have hm1 := hm.below hb
    clear hb 
    clear h hm
    go_wp2_with fail
    with_reducible refine (implPathParts_any s _ hm1 (by omega)).mono ?_
    rintro e w2 ⟨aG, cG, rfl, hG2, hb⟩
    have hb2 := hb1.trans (hb.mono hb1.size)
    have hm2 := hm1.below hb
    clear hb hb1 hm1
    go_wp2_with fail
    with_reducible refine (specPathParts_any s _ (by omega)).mono ?_
    rintro e w3 ⟨aW, cW, rfl, hW3, hb⟩
    have hb3 := hb2.trans (hb.mono hb2.size)
    have hm3 := hm2.below hb
    have hG3 := hG2.below hb
    clear hb hG2 hb2 hm2
    obtain ⟨PS, hPS⟩ : ∃ PS, partsS s = PS := ⟨_, rfl⟩
    have HP := Lib.hid hPS
    rw [hPS] at hG3 hW3 ⊢
    obtain ⟨L, hL⟩ : ∃ L, PS.length = L := ⟨_, rfl⟩
    rw [hL]
    have hL17 : L ≤ 17 := by
      have h1 := partsS_le s
      rw [hPS, hL] at h1
      omega
    have HL := Lib.hid hL
    clear hPS
    go_wp2_with fail
    with_reducible refine (sameTexts_self aG aW L cG cW PS _ (hG3.rdL hL) (hW3.rdL hL) (by omega)).mono ?_
    rintro e w4 ⟨rfl, hb⟩
    have hb4 := hb3.trans (hb.mono hb3.size)
    have hm4 := hm3.below hb
    have hG4 := hG3.below hb
    have hW4 := hW3.below hb
    clear hb hG3 hW3 hb3 hm3

    by_cases hv : pathV (bts s) = true
    · obtain ⟨hp0, hp4⟩ := partsS_pos hv
      rw [HP.out, hL] at hp0 hp4
      have hlz : ((L : Int) == 0) = false := by simp; omega
      have hz1 : decide ((1 : Int) ≤ (L : Int)) = true := by simp; omega
      have N1 := Lib.hid (show pathV (bts (s ++ ⟨#[47]⟩)) = false by rw [bts_append]; exact not_after _)
      have N2 := Lib.hid (show pathV (bts (⟨#[47]⟩ ++ s)) = false by rw [bts_append]; exact not_ahead _)
      have z1 : (s ++ ⟨#[47]⟩).size ≤ 17 := by rw [ByteArray.size_append]; show s.size + 1 ≤ _; omega
      have z2 : ((⟨#[47]⟩ : ByteArray) ++ s).size ≤ 17 := by rw [ByteArray.size_append]; show 1 + s.size ≤ _; omega
      clear hv
      go_wp2_with fail
      with_reducible refine (implPathValid_any (s ++ ⟨#[47]⟩) _ hm4 (by omega)).mono ?_
      rintro e w5 ⟨rfl, hb⟩
      have hb5 := hb4.trans (hb.mono hb4.size)
      have hm5 := hm4.below hb
      rw [N1.out]
      clear hb
      go_wp2_with fail
      with_reducible refine (implPathValid_any (⟨#[47]⟩ ++ s) _ hm5 (by omega)).mono ?_
      rintro e w6 ⟨rfl, hb⟩
      rw [N2.out]
      go_wp2
      go_ret
      exact ⟨rfl, hb5.trans (hb.mono hb5.size)⟩
    · have hv' : pathV (bts s) = false := by simpa using hv
      have hps : PS = [] := by rw [← HP.out]; exact partsS_no hv'
      have hL0 : L = 0 := by rw [← hL, hps]; rfl
      subst hL0
      clear hv hv'
      go_wp2_with fail
      with_reducible refine (sameTexts_self aG aW 0 cG cW PS _ (hG4.rdL hL) (hW4.rdL hL) (by omega)).mono ?_
      rintro e w5 ⟨rfl, hb⟩
      go_wp2
      go_ret
      exact ⟨rfl, hb4.trans (hb.mono hb4.size)⟩
  · have hbig : 1048576 < n := by omega
    go_enter Tryd.func4, Tryd.ntmps4
    go_wp2
    go_ret
    exact ⟨rfl, Below.refl _ _⟩

set_option maxHeartbeats 1000000 in
theorem FnWithinSelf_walk (a : Option Addr) (n c : Nat) (w : World) (h : RdC w a n) (hc : n ≤ c) (hmx : c ≤ maxLen) (hm : MLen w) :
    Calls Tryd.prog 5 #[.slice a n c] w (Tr w) := by
  unfold maxLen at hmx
  by_cases hn : n ≤ 1048576
  · skip
    go_enter Tryd.func5, Tryd.ntmps5
    go_wp2_with fail
    with_reducible refine (DrawPathWithin_any a n c _ h hc hn).mono ?_
    rintro e w1 ⟨s, d, rfl, hs, hd, hb⟩
    have hb1 := hb
    have hm1 := hm.below hb
    clear hb 
    clear h hm
    go_wp2_with fail
    with_reducible refine (implPathWithin_any s d _ hm1 (by omega) (by omega)).mono ?_
    rintro e w2 ⟨rfl, hb⟩
    have hb2 := hb1.trans (hb.mono hb1.size)
    have hm2 := hm1.below hb
    clear hb hb1 hm1
    go_wp2_with fail
    with_reducible refine (specPathWithin_any s d _ (by omega) (by omega)).mono ?_
    rintro e w3 ⟨rfl, hb⟩
    have hb3 := hb2.trans (hb.mono hb2.size)
    have hm3 := hm2.below hb
    clear hb hb2 hm2
    obtain ⟨rr, hrr⟩ : ∃ rr, withinR (bts s) (bts d) = rr := ⟨_, rfl⟩
    rw [hrr]
    have e2 : (rr == rr) = true := by simp
    have e3 : (rr != rr) = false := by simp
    clear hrr
    go_wp2_with fail
    with_reducible refine (specPathValid_any s _ (by omega)).mono ?_
    rintro e w4 ⟨rfl, hb⟩
    have hb4 := hb3.trans (hb.mono hb3.size)
    have hm4 := hm3.below hb
    clear hb
    by_cases hv : pathV (bts s) = true
    · have W1 := Lib.hid (withinR_yes hv (dirV_path hv) (withinL_self (bts s)))
      have W2 := Lib.hid (withinR_yes hv (show dirV (bts ⟨#[]⟩) = true from rfl) (withinL_nil (bts s)))
      have W3 := Lib.hid (show withinR (bts ⟨#[]⟩) (bts s) = false from withinR_bad pathV_nil)
      rw [hv]
      clear hv
      go_wp2_with fail
      with_reducible refine (implPathWithin_any s s _ hm4 (by omega) (by omega)).mono ?_
      rintro e w5 ⟨rfl, hb⟩
      have hb5 := hb4.trans (hb.mono hb4.size)
      have hm5 := hm4.below hb
      rw [W1.out]
      clear hb
      go_wp2_with fail
      with_reducible refine (implPathWithin_any s ⟨#[]⟩ _ hm5 (by omega) (by decide)).mono ?_
      rintro e w6 ⟨rfl, hb⟩
      have hb6 := hb5.trans (hb.mono hb5.size)
      have hm6 := hm5.below hb
      rw [W2.out]
      clear hb
      go_wp2_with fail
      with_reducible refine (implPathWithin_any ⟨#[]⟩ s _ hm6 (by decide) (by omega)).mono ?_
      rintro e w7 ⟨rfl, hb⟩
      have hb7 := hb6.trans (hb.mono hb6.size)
      rw [W3.out]
      go_wp2
      go_ret
      exact ⟨rfl, hb7⟩
    · have hv' : pathV (bts s) = false := by simpa using hv
      rw [hv']
      clear hv hv'
      go_wp2
      go_ret
      exact ⟨rfl, hb4⟩
  · have hbig : 1048576 < n := by omega
    go_enter Tryd.func5, Tryd.ntmps5
    go_wp2
    go_ret
    exact ⟨rfl, Below.refl _ _⟩

set_option maxHeartbeats 1000000 in
theorem FnWithin_walk (a : Option Addr) (n c : Nat) (w : World) (h : RdC w a n) (hc : n ≤ c) (hmx : c ≤ maxLen) (hm : MLen w) :
    Calls Tryd.prog 8 #[.slice a n c] w (Tr w) := by
  unfold maxLen at hmx
  by_cases hn : n ≤ 1048576
  · skip
    go_enter Tryd.func8, Tryd.ntmps8
    go_wp2_with fail
    with_reducible refine (DrawPathWithin_any a n c _ h hc hn).mono ?_
    rintro e w1 ⟨s, d, rfl, hs, hd, hb⟩
    have hb1 := hb
    have hm1 := hm.below hb
    clear hb 
    clear h hm
    go_wp2_with fail
    with_reducible refine (implPathWithin_any s d _ hm1 (by omega) (by omega)).mono ?_
    rintro e w2 ⟨rfl, hb⟩
    have hb2 := hb1.trans (hb.mono hb1.size)
    have hm2 := hm1.below hb
    clear hb hb1 hm1
    go_wp2_with fail
    with_reducible refine (specPathWithin_any s d _ (by omega) (by omega)).mono ?_
    rintro e w3 ⟨rfl, hb⟩
    have hb3 := hb2.trans (hb.mono hb2.size)
    have hm3 := hm2.below hb
    clear hb hb2 hm2
    obtain ⟨rr, hrr⟩ : ∃ rr, withinR (bts s) (bts d) = rr := ⟨_, rfl⟩
    rw [hrr]
    have e2 : (rr == rr) = true := by simp
    have e3 : (rr != rr) = false := by simp
    cases rr with
    | false =>
      clear hrr
      go_wp2
      go_ret
      exact ⟨rfl, hb3⟩
    | true =>
      obtain ⟨hw1, hw2⟩ := within_partsS hrr
      clear hrr
      go_wp2_with fail
      with_reducible refine (implPathParts_any s _ hm3 (by omega)).mono ?_
      rintro e w4 ⟨aA, cA, rfl, hA4, hb⟩
      have hb4 := hb3.trans (hb.mono hb3.size)
      have hm4 := hm3.below hb
      clear hb
      go_wp2_with fail
      with_reducible refine (implPathParts_any d _ hm4 (by omega)).mono ?_
      rintro e w5 ⟨aB, cB, rfl, hB5, hb⟩
      have hb5 := hb4.trans (hb.mono hb4.size)
      have hm5 := hm4.below hb
      have hA5 := hA4.below hb
      clear hb hA4
      have hlA := partsS_le s
      have hlB := partsS_le d
      obtain ⟨PA, hPA⟩ : ∃ PA, partsS s = PA := ⟨_, rfl⟩
      obtain ⟨PB, hPB⟩ : ∃ PB, partsS d = PB := ⟨_, rfl⟩
      rw [hPA] at hw1 hw2 hA5 hlA ⊢
      rw [hPB] at hw1 hw2 hB5 hlB ⊢
      clear hPA hPB
      have hcA := hA5.cap
      obtain ⟨LA, hLA⟩ : ∃ LA, PA.length = LA := ⟨_, rfl⟩
      obtain ⟨LB, hLB⟩ : ∃ LB, PB.length = LB := ⟨_, rfl⟩
      rw [hLA] at hw1 hcA hlA ⊢
      rw [hLB] at hw1 hw2 hlB ⊢
      have d1 : decide ((LB : Int) ≤ (LA : Int)) = true := by simp; omega
      have hRA := Lib.hid ((hA5.rdL hLA).pre hw1)
      have hRB := Lib.hid (hB5.rdL hLB)
      unfold maxLen at hcA
      by_cases h0 : LB = 0
      · subst h0
        rw [hw2] at hRA
        go_wp2_with fail
        with_reducible refine (sameTexts_self _ _ _ _ _ PB _ hRA.out hRB.out (by omega)).mono ?_
        rintro e w6 ⟨rfl, hb⟩
        go_wp2
        go_ret
        exact ⟨rfl, hb5.trans (hb.mono hb5.size)⟩
      · rw [hw2] at hRA
        obtain ⟨gA, rfl, hgA1, hgA2⟩ := hA5.head (by omega)
        go_wp2_with fail
        with_reducible refine (sameTexts_self _ _ _ _ _ PB _ hRA.out hRB.out (by omega)).mono ?_
        rintro e w6 ⟨rfl, hb⟩
        go_wp2
        go_ret
        exact ⟨rfl, hb5.trans (hb.mono hb5.size)⟩
  · have hbig : 1048576 < n := by omega
    go_enter Tryd.func8, Tryd.ntmps8
    go_wp2
    go_ret
    exact ⟨rfl, Below.refl _ _⟩

set_option maxHeartbeats 1000000 in
theorem FnParent_walk (a : Option Addr) (n c : Nat) (w : World) (h : RdC w a n) (hc : n ≤ c) (hmx : c ≤ maxLen) (hm : MLen w) :
    Calls Tryd.prog 6 #[.slice a n c] w (Tr w) := by
  unfold maxLen at hmx
  by_cases hn : n ≤ 1048576
  · skip
    go_enter Tryd.func6, Tryd.ntmps6
    go_wp2_with fail
    with_reducible refine (DrawPathParent_any a n c _ h hc hn).mono ?_
    rintro e w1 ⟨s, rfl, hs, hb⟩
    have hb1 := hb
    have hm1 := hm.below hb
    clear hb 
    clear h hm
    go_wp2_with fail
    with_reducible refine (implPathParent_any s _ hm1 (by omega)).mono ?_
    rintro e w2 ⟨rfl, hb⟩
    have hb2 := hb1.trans (hb.mono hb1.size)
    have hm2 := hm1.below hb
    clear hb hb1 hm1
    go_wp2_with fail
    with_reducible refine (specPathParent_any s _ (by omega)).mono ?_
    rintro e w3 ⟨rfl, hb⟩
    have hb3 := hb2.trans (hb.mono hb2.size)
    have hm3 := hm2.below hb
    clear hb hb2 hm2

    have hps := parentR_size s
    by_cases hv : pathV (bts s) = true
    · obtain ⟨P1, P2⟩ := parent_law hv
      have hok : (parentR (bts s)).2 = true := by rw [parentR_yes hv]
      obtain ⟨d, hd⟩ : ∃ d, mkS (parentR (bts s)).1 = d := ⟨_, rfl⟩
      have hbd : bts d = (parentR (bts s)).1 := by rw [← hd, bts_mk]
      rw [← hbd] at P1
      rw [hd] at P2 hps ⊢
      rw [hok]
      have e1 : (d.toList == d.toList) = true := eqT rfl
      have e2 : (d.toList != d.toList) = false := by simp
      have W1 := Lib.hid P1
      clear P1 hd hbd hok hv
      go_wp2_with fail
      with_reducible refine (implPathWithin_any s d _ hm3 (by omega) (by omega)).mono ?_
      rintro e w4 ⟨rfl, hb⟩
      have hb4 := hb3.trans (hb.mono hb3.size)
      have hm4 := hm3.below hb
      rw [W1.out]
      clear hb
      go_wp2_with fail
      with_reducible refine (implPathParts_any d _ hm4 (by omega)).mono ?_
      rintro e w5 ⟨aA, cA, rfl, hA5, hb⟩
      have hb5 := hb4.trans (hb.mono hb4.size)
      have hm5 := hm4.below hb
      clear hb
      go_wp2_with fail
      with_reducible refine (implPathParts_any s _ hm5 (by omega)).mono ?_
      rintro e w6 ⟨aB, cB, rfl, hB6, hb⟩
      have hb6 := hb5.trans (hb.mono hb5.size)
      have hcB := hB6.cap
      obtain ⟨LA, hLA⟩ : ∃ LA, (partsS d).length = LA := ⟨_, rfl⟩
      obtain ⟨LB, hLB⟩ : ∃ LB, (partsS s).length = LB := ⟨_, rfl⟩
      rw [hLA] at P2 ⊢
      rw [hLB] at P2 hcB ⊢
      unfold maxLen at hcB
      have P3 : ((LA : Int) == (LB : Int) - 1) = true := by rw [P2]; simp
      have P4 : 1 ≤ LB := by omega
      clear P2
      go_wp2
      go_ret
      exact ⟨rfl, hb6⟩
    · have hv' : pathV (bts s) = false := by simpa using hv
      rw [parentR_no hv']
      clear hv hv'
      go_wp2
      go_ret
      exact ⟨rfl, hb3⟩
  · have hbig : 1048576 < n := by omega
    go_enter Tryd.func6, Tryd.ntmps6
    go_wp2
    go_ret
    exact ⟨rfl, Below.refl _ _⟩

set_option maxHeartbeats 1000000 in
theorem FnParentNot_walk (a : Option Addr) (n c : Nat) (w : World) (h : RdC w a n) (hc : n ≤ c) (hmx : c ≤ maxLen) (hm : MLen w) :
    Calls Tryd.prog 7 #[.slice a n c] w (Tr w) := by
  unfold maxLen at hmx
  by_cases hn : n ≤ 1048576
  · skip
    go_enter Tryd.func7, Tryd.ntmps7
    go_wp2_with fail
    with_reducible refine (DrawPathParent_any a n c _ h hc hn).mono ?_
    rintro e w1 ⟨s, rfl, hs, hb⟩
    have hb1 := hb
    have hm1 := hm.below hb
    clear hb 
    clear h hm
    go_wp2_with fail
    with_reducible refine (implPathParent_any s _ hm1 (by omega)).mono ?_
    rintro e w2 ⟨rfl, hb⟩
    have hb2 := hb1.trans (hb.mono hb1.size)
    have hm2 := hm1.below hb
    clear hb hb1 hm1
    go_wp2_with fail
    with_reducible refine (specPathParent_any s _ (by omega)).mono ?_
    rintro e w3 ⟨rfl, hb⟩
    have hb3 := hb2.trans (hb.mono hb2.size)
    have hm3 := hm2.below hb
    clear hb hb2 hm2

    have hps := parentR_size s
    by_cases hv : pathV (bts s) = true
    · have hok : (parentR (bts s)).2 = true := by rw [parentR_yes hv]
      obtain ⟨d, hd⟩ : ∃ d, mkS (parentR (bts s)).1 = d := ⟨_, rfl⟩
      have hbd : bts d = (parentR (bts s)).1 := by rw [← hd, bts_mk]
      rw [hd] at hps ⊢
      rw [hok]
      have e1 : (d.toList == d.toList) = true := eqT rfl
      have e2 : (d.toList != d.toList) = false := by simp
      clear hd hok
      by_cases h0 : bts d = []
      · obtain ⟨t0, t1⟩ := emT h0
        clear h0 hbd hv
        go_wp2
        go_ret
        exact ⟨rfl, hb3⟩
      · have P := parent_not hv (by rw [← hbd]; exact h0)
        rw [← hbd] at P
        obtain ⟨P1, P2⟩ := P
        obtain ⟨t0, t1⟩ := nemT h0
        have W1 := Lib.hid P1
        have W2 := Lib.hid P2
        clear P1 P2 h0 hbd hv
        go_wp2_with fail
        with_reducible refine (implPathWithin_any d s _ hm3 (by omega) (by omega)).mono ?_
        rintro e w4 ⟨rfl, hb⟩
        have hb4 := hb3.trans (hb.mono hb3.size)
        have hm4 := hm3.below hb
        rw [W1.out]
        clear hb
        go_wp2_with fail
        with_reducible refine (implPathValid_any d _ hm4 (by omega)).mono ?_
        rintro e w5 ⟨rfl, hb⟩
        rw [W2.out]
        go_wp2
        go_ret
        exact ⟨rfl, hb4.trans (hb.mono hb4.size)⟩
    · have hv' : pathV (bts s) = false := by simpa using hv
      rw [parentR_no hv']
      clear hv hv'
      go_wp2
      go_ret
      exact ⟨rfl, hb3⟩
  · have hbig : 1048576 < n := by omega
    go_enter Tryd.func7, Tryd.ntmps7
    go_wp2
    go_ret
    exact ⟨rfl, Below.refl _ _⟩

theorem moveR_size (s f t : ByteArray) : (mkS (moveR (bts s) (bts f) (bts t)).1).size ≤ s.size + t.size := by
  rw [mkS_size, ← bts_length, ← bts_length]
  unfold moveR
  split
  · simp; omega
  · simp

end Go.Proofs.YtlckbjflddmjgaaDoor
