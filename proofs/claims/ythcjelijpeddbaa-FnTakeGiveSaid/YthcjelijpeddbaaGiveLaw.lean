/- Walks of the laws of SpaceGive: FnGive, FnGiveParts, FnGiveOthers, FnTakeGive. -/
import Derived.Test.YthcjelijpeddbaaGiveSpec2
import Derived.Test.YthcjelijpeddbaaPlainGive2
import Derived.Test.YthcjelijpeddbaaDrawGive
import Derived.Test.YthcjelijpeddbaaSameX
import Derived.Test.YthcjelijpeddbaaExGive
import Derived.Test.YthcjelijpeddbaaFreeMost
import Derived.Test.YthcjelijpeddbaaTakeSpec
import Derived.Test.YthcjelijpeddbaaTr
import Derived.Deep.RegionWith
namespace Go.Proofs.Ythcjelijpeddbaa
open Go.RowKit
set_option linter.unusedVariables false

theorem sameSpace_self (a a' : Option Addr) (n c c' : Nat) (xs : List (Int × Int)) (w : World) (hr : RdX w a n xs) (hr' : RdX w a' n xs) (hw : WfX xs) (hn : n ≤ 4611686018427387904) :
    Calls Try.prog 11 #[.slice a n c, .slice a' n c'] w (RetB w (.bool true)) :=
  (sameSpace_any a a' n n c c' xs xs w hr hr' hw hw hn hn).mono fun e w' ⟨h1, m, h2⟩ => ⟨by rw [h1, eqX_self], by rw [h2]; exact below_drewN (Below.refl _ _) _⟩

/-- A boxed extent, the second block. -/
def BoxY (w wk : World) (f m : Int) : Prop := wk.cell? ⟨w.heap.size + 1, 0, none⟩ = some (.int .i64 f) ∧ wk.cell? ⟨w.heap.size + 1, 1, none⟩ = some (.int .i64 m) ∧ w.heap.size + 1 < wk.heap.size

theorem BoxY.below {w wk w2 : World} {f m : Int} (h : BoxY w wk f m) (hb : Below wk.heap.size wk w2) : BoxY w w2 f m :=
  ⟨(hb.cell (p := ⟨w.heap.size + 1, 0, none⟩) h.2.2).trans h.1, (hb.cell (p := ⟨w.heap.size + 1, 1, none⟩) h.2.2).trans h.2.1, Nat.lt_of_lt_of_le h.2.2 hb.size⟩

theorem BoxY.new (w : World) (o : Obj) (f m : Int) (t : TypeId) : BoxY w ((w.alloc o).alloc (.cells #[.int .i64 f, .int .i64 m] t)) f m := by
  have hs : (w.alloc o).heap.size = w.heap.size + 1 := by simp
  have h := BoxX.new (w.alloc o) f m t
  unfold BoxX at h
  rw [hs] at h
  exact h

theorem takeR_length (xs : List (Int × Int)) (m : Int) : (takeR xs m).1.length ≤ 100 := by
  unfold takeR
  split
  · rename_i h
    split
    · rename_i r hr
      exact space_count (takeX_spec h.2.1 h.1 hr).1
    · simp
  · simp

set_option maxHeartbeats 1000000 in
theorem FnGiveParts_walk (a : Option Addr) (n c : Nat) (w : World) (h : RdC w a n) (hc : n ≤ c) (hm : c ≤ maxLen) :
    Calls Try.prog 4 #[.slice a n c] w (Tr w) := by
  unfold maxLen at hm
  by_cases hn : n ≤ 1048576
  · go_enter Try.func4, Try.ntmps4
    go_wp2_with fail
    with_reducible refine (DrawSpaceGive_any a n c _ h hc hn).mono ?_
    rintro e w0 ⟨zs, a1, c1, f, m, rfl, hz, hf, hmm, hO, hb⟩
    obtain ⟨W1, hW1⟩ : ∃ W1 : World, W1 = w0.alloc (.cells #[.int .i64 f, .int .i64 m] 32) := ⟨_, rfl⟩
    have hbx : Below w0.heap.size w0 W1 := by rw [hW1]; exact boxBelow w0 _
    have hQ_0 : BoxX w0 W1 f m := by rw [hW1]; exact BoxX.new w0 f m _
    have hO_0 := hO.below hbx
    have hb_0 := hb.trans (hbx.mono hb.size)
    have HW1 := Lib.hid hW1
    clear hW1 hO hb hbx h
    go_wp2_with fail
    rw [← HW1.out]
    with_reducible refine (implSpaceGive_any a1 zs.length c1 zs f m _ hO_0.rd hO_0.wf (by omega) hf hmm).mono ?_
    rintro e w1 ⟨aG, cG, rfl, hG_1, hb⟩
    have hQ_1 := hQ_0.below hb
    have hO_1 := hO_0.below hb
    have hb_1 := hb_0.trans (hb.mono hb_0.size)
    clear hQ_0 hO_0 hb_0 hb
    obtain ⟨y0, y1, _⟩ := hQ_1
    go_wp2_with fail
    with_reducible refine (specSpaceGive_any a1 zs.length c1 zs f m _ hO_1.rd hO_1.wf (by omega) hf hmm).mono ?_
    rintro e w2 ⟨aW, cW, rfl, hW_2, hb⟩
    have hQ_1 : BoxX w0 w1 f m := ⟨y0, y1, by assumption⟩
    clear y0 y1
    have hQ_2 := hQ_1.below hb
    have hO_2 := hO_1.below hb
    have hG_2 := hG_1.below hb
    have hb_2 := hb_1.trans (hb.mono hb_1.size)
    clear hQ_1 hO_1 hG_1 hb_1 hb
    have hlen := giveR_length zs (f, m)
    have hok := Lib.hid (@give_ok zs (f, m))
    obtain ⟨LL, hLL⟩ : ∃ LL, (giveR zs (f, m)).1 = LL := ⟨_, rfl⟩
    obtain ⟨bb, hbb⟩ : ∃ bb, (giveR zs (f, m)).2 = bb := ⟨_, rfl⟩
    rw [hLL, hbb] at hok
    rw [hLL] at hlen hG_2 hW_2 ⊢
    rw [hbb]
    clear hLL hbb
    have q1 : (bb != bb) = false := by simp
    have q3 : (bb == bb) = true := by simp
    go_wp2_with fail
    with_reducible refine (sameSpace_self aG aW _ cG cW LL _ hG_2.rd hW_2.rd hG_2.wf (by omega)).mono ?_
    rintro e w3 ⟨rfl, hb⟩
    have hQ_3 := hQ_2.below hb
    have hO_3 := hO_2.below hb
    have hG_3 := hG_2.below hb
    have hW_3 := hW_2.below hb
    have hb_3 := hb_2.trans (hb.mono hb_2.size)
    clear hQ_2 hO_2 hG_2 hW_2 hb_2 hb
    by_cases hbt : bb = true
    · subst hbt
      obtain ⟨hv, hx, hme, hL⟩ := hok.out rfl
      have hin := give_in hv hx hme
      rw [← hL] at hin
      obtain ⟨hvL, hin⟩ := hin
      have vx := (validX_iff _).1 hx
      simp only at vx
      obtain ⟨v0, v1, v2, v3⟩ := vx
      have HV := Lib.hid hv
      have HX := Lib.hid hx
      have HME := Lib.hid hme
      have HL := Lib.hid hL
      have HVL := Lib.hid hvL
      have HIN := Lib.hid hin
      clear hok hv hx hme hL hvL hin
      obtain ⟨y0, y1, hq2⟩ := hQ_3
      by_cases h2 : m < 2
      · go_wp2_with fail
        with_reducible refine (sameSpace_self aG aW _ cG cW LL _ hG_3.rd hW_3.rd hG_3.wf (by omega)).mono ?_
        rintro e w4 ⟨rfl, hb⟩
        have hb_4 := hb_3.trans (hb.mono hb_3.size)
        clear hb
        go_wp2
        go_ret
        exact ⟨rfl, hb_4⟩
      · have hx1 : validX (f, 1) = true := by rw [validX_iff]; simp only; omega
        have hx2 : validX (f + 1, m - 1) = true := by rw [validX_iff]; simp only; omega
        have hp1 := give_parts (f1 := f) (m1 := 1) (f2 := f + 1) (m2 := m - 1) HV.out HX.out HME.out hx1 hx2 (fun p => by rw [Bool.eq_iff_iff]; simp only [Bool.or_eq_true, inX_iff]; omega) (fun p p1 p2 => by cases hc : inX (f, 1) p with | false => rfl | true => (rw [inX_iff] at hc; simp only at hc; omega))
        have hp2 := give_parts (f1 := f + 1) (m1 := m - 1) (f2 := f) (m2 := 1) HV.out HX.out HME.out hx2 hx1 (fun p => by rw [Bool.eq_iff_iff]; simp only [Bool.or_eq_true, inX_iff]; omega) (fun p p1 p2 => by cases hc : inX (f + 1, m - 1) p with | false => rfl | true => (rw [inX_iff] at hc; simp only at hc; omega))
        rw [← HL.out] at hp1 hp2
        have hl1 := giveR_length zs (f, 1)
        have hl2 := giveR_length zs (f + 1, m - 1)
        obtain ⟨AA, hAA⟩ : ∃ AA, (giveR zs (f, 1)).1 = AA := ⟨_, rfl⟩
        obtain ⟨CC, hCC⟩ : ∃ CC, (giveR zs (f + 1, m - 1)).1 = CC := ⟨_, rfl⟩
        rw [hAA] at hp1 hl1
        rw [hCC] at hp2 hl2
        have P1 := Lib.hid hp1.1
        have P2 := Lib.hid hp1.2
        have P3 := Lib.hid hp2.1
        have P4 := Lib.hid hp2.2
        have HAA := Lib.hid hAA
        have HCC := Lib.hid hCC
        clear hp1 hp2 hAA hCC hx1 hx2
        have hbx := (boxBelow w3 (.cells #[.int .i64 f, .int .i64 1] 32))
        obtain ⟨V, hV⟩ : ∃ V : World, V = (w3.alloc (.cells #[.int .i64 f, .int .i64 1] 32)).alloc (.cells #[.int .i64 (f + 1), .int .i64 (m - 1)] 32) := ⟨_, rfl⟩
        have hbV : Below w3.heap.size w3 V := by rw [hV]; exact (boxBelow w3 _).alloc (by simp) _
        have hV0 : BoxX w3 V f 1 := by rw [hV]; exact BoxX.below (BoxX.new w3 f 1 _) (boxBelow _ _)
        have hV1 : BoxY w3 V (f + 1) (m - 1) := by rw [hV]; exact BoxY.new w3 _ (f + 1) (m - 1) _
        have HVV := Lib.hid hV
        have hb_4 := hb_3.trans (hbV.mono hb_3.size)
        have hO_4 := hO_3.below hbV
        have hG_4 := hG_3.below hbV
        clear hV hb_3 hbV hbx hO_3 hW_3 hG_3
        go_wp2_with fail
        rw [← HVV.out]
        with_reducible refine (implSpaceGive_any a1 zs.length c1 zs f 1 _ hO_4.rd hO_4.wf (by omega) ⟨by omega, by omega⟩ ⟨by omega, by omega⟩).mono ?_
        rw [HAA.out, P1.out]
        rintro e w5 ⟨aA, cA, rfl, hA_5, hb⟩
        have hO_5 := hO_4.below hb
        have hG_5 := hG_4.below hb
        have hV0' := BoxX.below hV0 hb
        obtain ⟨x0, x1, x2⟩ := BoxY.below hV1 hb
        have hb_5 := hb_4.trans (hb.mono hb_4.size)
        clear hb hb_4 hO_4 hG_4 hV0 hV1
        go_wp2_with fail
        with_reducible refine (implSpaceGive_any aA AA.length cA AA (f + 1) (m - 1) _ hA_5.rd hA_5.wf (by omega) ⟨by omega, by omega⟩ ⟨by omega, by omega⟩).mono ?_
        rw [P2.out]
        rintro e w6 ⟨aB, cB, rfl, hB_6, hb⟩
        have hO_6 := hO_5.below hb
        have hG_6 := hG_5.below hb
        have hV0'' := BoxX.below hV0' hb
        have hb_6 := hb_5.trans (hb.mono hb_5.size)
        obtain ⟨x3, x4, x5⟩ := BoxY.below ⟨x0, x1, x2⟩ hb
        clear hb hb_5 hO_5 hG_5 hV0' x0 x1 x2
        go_wp2_with fail
        with_reducible refine (implSpaceGive_any a1 zs.length c1 zs (f + 1) (m - 1) _ hO_6.rd hO_6.wf (by omega) ⟨by omega, by omega⟩ ⟨by omega, by omega⟩).mono ?_
        rw [HCC.out, P3.out]
        rintro e w7 ⟨aC, cC, rfl, hC_7, hb⟩
        have hG_7 := hG_6.below hb
        have hB_7 := hB_6.below hb
        obtain ⟨x6, x7, x8⟩ := BoxX.below hV0'' hb
        have hb_7 := hb_6.trans (hb.mono hb_6.size)
        clear hb hb_6 hO_6 hG_6 hB_6 x3 x4 x5 hV0''
        go_wp2_with fail
        with_reducible refine (implSpaceGive_any aC CC.length cC CC f 1 _ hC_7.rd hC_7.wf (by omega) ⟨by omega, by omega⟩ ⟨by omega, by omega⟩).mono ?_
        rw [P4.out]
        rintro e w8 ⟨aD, cD, rfl, hD_8, hb⟩
        have hG_8 := hG_7.below hb
        have hB_8 := hB_7.below hb
        have hb_8 := hb_7.trans (hb.mono hb_7.size)
        clear hb hb_7 hG_7 hB_7 hC_7 x6 x7 x8
        go_wp2_with fail
        with_reducible refine (sameSpace_self aB aG _ cB cG LL _ hB_8.rd hG_8.rd hB_8.wf (by omega)).mono ?_
        rintro e w9 ⟨rfl, hb⟩
        have hG_9 := hG_8.below hb
        have hD_9 := hD_8.below hb
        have hb_9 := hb_8.trans (hb.mono hb_8.size)
        clear hb hb_8 hG_8 hB_8 hD_8
        go_wp2_with fail
        with_reducible refine (sameSpace_self aD aG _ cD cG LL _ hD_9.rd hG_9.rd hD_9.wf (by omega)).mono ?_
        rintro e w10 ⟨rfl, hb⟩
        have hb_10 := hb_9.trans (hb.mono hb_9.size)
        clear hb
        go_wp2
        go_ret
        exact ⟨rfl, hb_10⟩
    · have hbf : bb = false := by simpa using hbt
      subst hbf
      clear hok hbt
      go_wp2_with fail
      with_reducible refine (sameSpace_self aG aW _ cG cW LL _ hG_3.rd hW_3.rd hG_3.wf (by omega)).mono ?_
      rintro e w4 ⟨rfl, hb⟩
      have hb_4 := hb_3.trans (hb.mono hb_3.size)
      clear hb
      go_wp2
      go_ret
      exact ⟨rfl, hb_4⟩
  · go_enter Try.func4, Try.ntmps4
    go_wp2
    go_ret
    exact ⟨rfl, Below.refl _ _⟩

set_option maxHeartbeats 1000000 in
theorem FnGiveOthers_walk (a : Option Addr) (n c : Nat) (a' : Option Addr) (n' c' : Nat) (w : World) (h : RdC w a n) (hc : n ≤ c) (hm : c ≤ maxLen) (h' : RdC w a' n') (hc' : n' ≤ c') (hm' : c' ≤ maxLen) :
    Calls Try.prog 6 #[.slice a n c, .slice a' n' c'] w (Tr w) := by
  unfold maxLen at hm hm'
  by_cases hnn : n ≤ 1048576 ∧ n' ≤ 1048576
  · obtain ⟨hn, hn'⟩ := hnn
    have t1 : decide ((1048576 : Int) < (n : Int)) = false := by simp; omega
    have t2 : decide ((1048576 : Int) < (n' : Int)) = false := by simp; omega
    go_enter Try.func6, Try.ntmps6
    go_wp2_with fail
    with_reducible refine (DrawSpaceGive_any a n c _ h hc hn).mono ?_
    rintro e w0 ⟨zs, a1, c1, f, m, rfl, hz, hf, hmm, hO, hb⟩
    obtain ⟨W1, hW1⟩ : ∃ W1 : World, W1 = w0.alloc (.cells #[.int .i64 f, .int .i64 m] 32) := ⟨_, rfl⟩
    have hbx : Below w0.heap.size w0 W1 := by rw [hW1]; exact boxBelow w0 _
    have hQ_0 : BoxX w0 W1 f m := by rw [hW1]; exact BoxX.new w0 f m _
    have hO_0 := hO.below hbx
    have hb_0 := hb.trans (hbx.mono hb.size)
    have HW1 := Lib.hid hW1
    clear hW1 hO hb hbx h
    go_wp2_with fail
    rw [← HW1.out]
    with_reducible refine (implSpaceGive_any a1 zs.length c1 zs f m _ hO_0.rd hO_0.wf (by omega) hf hmm).mono ?_
    rintro e w1 ⟨aG, cG, rfl, hG_1, hb⟩
    have hQ_1 := hQ_0.below hb
    have hO_1 := hO_0.below hb
    have hb_1 := hb_0.trans (hb.mono hb_0.size)
    clear hQ_0 hO_0 hb_0 hb
    obtain ⟨y0, y1, _⟩ := hQ_1
    go_wp2_with fail
    with_reducible refine (specSpaceGive_any a1 zs.length c1 zs f m _ hO_1.rd hO_1.wf (by omega) hf hmm).mono ?_
    rintro e w2 ⟨aW, cW, rfl, hW_2, hb⟩
    have hQ_1 : BoxX w0 w1 f m := ⟨y0, y1, by assumption⟩
    clear y0 y1
    have hQ_2 := hQ_1.below hb
    have hO_2 := hO_1.below hb
    have hG_2 := hG_1.below hb
    have hb_2 := hb_1.trans (hb.mono hb_1.size)
    clear hQ_1 hO_1 hG_1 hb_1 hb
    have hlen := giveR_length zs (f, m)
    have hok := Lib.hid (@give_ok zs (f, m))
    obtain ⟨LL, hLL⟩ : ∃ LL, (giveR zs (f, m)).1 = LL := ⟨_, rfl⟩
    obtain ⟨bb, hbb⟩ : ∃ bb, (giveR zs (f, m)).2 = bb := ⟨_, rfl⟩
    rw [hLL, hbb] at hok
    rw [hLL] at hlen hG_2 hW_2 ⊢
    rw [hbb]
    clear hLL hbb
    have q1 : (bb != bb) = false := by simp
    have q3 : (bb == bb) = true := by simp
    go_wp2_with fail
    with_reducible refine (sameSpace_self aG aW _ cG cW LL _ hG_2.rd hW_2.rd hG_2.wf (by omega)).mono ?_
    rintro e w3 ⟨rfl, hb⟩
    have hQ_3 := hQ_2.below hb
    have hO_3 := hO_2.below hb
    have hG_3 := hG_2.below hb
    have hW_3 := hW_2.below hb
    have hb_3 := hb_2.trans (hb.mono hb_2.size)
    clear hQ_2 hO_2 hG_2 hW_2 hb_2 hb
    by_cases hbt : bb = true
    · subst hbt
      obtain ⟨hv, hx, hme, hL⟩ := hok.out rfl
      have hin := give_in hv hx hme
      rw [← hL] at hin
      obtain ⟨hvL, hin⟩ := hin
      have vx := (validX_iff _).1 hx
      simp only at vx
      obtain ⟨v0, v1, v2, v3⟩ := vx
      have HV := Lib.hid hv
      have HX := Lib.hid hx
      have HME := Lib.hid hme
      have HL := Lib.hid hL
      have HVL := Lib.hid hvL
      have HIN := Lib.hid hin
      clear hok hv hx hme hL hvL hin
      obtain ⟨y0, y1, hq2⟩ := hQ_3
      have hag := give_again HV.out HX.out HME.out
      rw [← HL.out] at hag
      have hal := giveR_length LL (f, m)
      obtain ⟨AA, hAA⟩ : ∃ AA, (giveR LL (f, m)).1 = AA := ⟨_, rfl⟩
      have HAG := Lib.hid hag
      rw [hAA] at hal
      have HAA := Lib.hid hAA
      clear hag hAA
      go_wp2_with fail
      with_reducible refine (implSpaceGive_any aG LL.length cG LL f m _ hG_3.rd hG_3.wf (by omega) hf hmm).mono ?_
      rw [HAA.out, HAG.out]
      rintro e w4 ⟨aA, cA, rfl, hA_4, hb⟩
      have hO_4 := hO_3.below hb
      have hG_4 := hG_3.below hb
      have hQ4 : BoxX w0 w4 f m := BoxX.below ⟨y0, y1, hq2⟩ hb
      obtain ⟨z0, z1, hq3⟩ := hQ4
      have hb_4 := hb_3.trans (hb.mono hb_3.size)
      clear hb hb_3 hO_3 hG_3 hW_3 hA_4 y0 y1
      have hcase : (decide (f ≤ ((n' : Int) % 100)) = true ∧ decide (((n' : Int) % 100) < f + m) = true) ∨ (Hid (inS LL ((n' : Int) % 100) = inS zs ((n' : Int) % 100)) ∧ (decide (f ≤ ((n' : Int) % 100)) = false ∨ (decide (f ≤ ((n' : Int) % 100)) = true ∧ decide (((n' : Int) % 100) < f + m) = false))) := by
        by_cases h1 : f ≤ ((n' : Int) % 100)
        · by_cases h2 : ((n' : Int) % 100) < f + m
          · left; exact ⟨by simpa using h1, by simpa using h2⟩
          · right
            refine ⟨Lib.hid ?_, .inr ⟨by simpa using h1, by simpa using h2⟩⟩
            rw [HIN.out]
            have e1 : inX (f, m) ((n' : Int) % 100) = false := by simp [inX]; omega
            rw [e1, Bool.or_false]
        · right
          refine ⟨Lib.hid ?_, .inl (by simpa using h1)⟩
          rw [HIN.out]
          have e1 : inX (f, m) ((n' : Int) % 100) = false := by simp [inX]; omega
          rw [e1, Bool.or_false]
      rcases hcase with ⟨d1, d2⟩ | ⟨HE, hd⟩
      · go_wp2
        go_ret
        exact ⟨rfl, hb_4⟩
      · obtain ⟨b0, hb0⟩ : ∃ b0, inS zs ((n' : Int) % 100) = b0 := ⟨_, rfl⟩
        have HB0 := Lib.hid hb0
        have HE2 : Hid (inS LL ((n' : Int) % 100) = b0) := Lib.hid (by rw [HE.out, hb0])
        have qb : (b0 == b0) = true := by simp
        clear hb0 HE
        rcases hd with d1 | ⟨d1, d2⟩
        all_goals
          go_wp2_with fail
          with_reducible refine (isFree_any aG _ cG LL ((n' : Int) % 100) _ hG_4.rd hG_4.wf (by omega) HVL.out).mono ?_
          rintro e w5 ⟨rfl, hb⟩
          have hO_5 := hO_4.below hb
          have hb_5 := hb_4.trans (hb.mono hb_4.size)
          rw [HE2.out]
          clear hb
          go_wp2_with fail
          with_reducible refine (isFree_any a1 _ c1 zs ((n' : Int) % 100) _ hO_5.rd hO_5.wf (by omega) HV.out).mono ?_
          rintro e w6 ⟨rfl, hb⟩
          have hb_6 := hb_5.trans (hb.mono hb_5.size)
          rw [HB0.out]
          clear hb
          go_wp2
          go_ret
          exact ⟨rfl, hb_6⟩
    · have hbf : bb = false := by simpa using hbt
      subst hbf
      clear hok hbt
      go_wp2_with fail
      with_reducible refine (sameSpace_self aG aW _ cG cW LL _ hG_3.rd hW_3.rd hG_3.wf (by omega)).mono ?_
      rintro e w4 ⟨rfl, hb⟩
      have hb_4 := hb_3.trans (hb.mono hb_3.size)
      clear hb
      go_wp2
      go_ret
      exact ⟨rfl, hb_4⟩
  · by_cases h1 : n ≤ 1048576
    · have t1 : decide ((1048576 : Int) < (n : Int)) = false := by simp; omega
      have t2 : decide ((1048576 : Int) < (n' : Int)) = true := by simp; omega
      go_enter Try.func6, Try.ntmps6
      go_wp2
      go_ret
      exact ⟨rfl, Below.refl _ _⟩
    · have t1 : decide ((1048576 : Int) < (n : Int)) = true := by simp; omega
      go_enter Try.func6, Try.ntmps6
      go_wp2
      go_ret
      exact ⟨rfl, Below.refl _ _⟩

set_option maxHeartbeats 1000000 in
theorem FnTakeGive_walk (a : Option Addr) (n c : Nat) (w : World) (h : RdC w a n) (hc : n ≤ c) (hm : c ≤ maxLen) :
    Calls Try.prog 3 #[.slice a n c] w (Tr w) := by
  unfold maxLen at hm
  by_cases hn : n ≤ 1048576
  · go_enter Try.func3, Try.ntmps3
    go_wp2_with fail
    with_reducible refine (DrawSpaceTake_any a n c _ h hc hn).mono ?_
    rintro e w1 ⟨zs, a1, c1, t, rfl, hz, ht0, ht1, hO1, hb1⟩
    go_wp2_with fail
    with_reducible refine (implSpaceTake_any a1 zs.length c1 zs t _ hO1.rd hO1.wf (by omega)).mono ?_
    rintro e w2 ⟨aG, cG, rfl, hG2, hb⟩
    have hO2 := hO1.below hb
    have hb2 := hb1.trans (hb.mono hb1.size)
    clear hb hO1 hb1 h
    go_wp2_with fail
    with_reducible refine (specSpaceTake_any a1 zs.length c1 zs t _ hO2.rd hO2.wf (by omega)).mono ?_
    rintro e w3 ⟨aW, cW, rfl, hW3, hb⟩
    have hO3 := hO2.below hb
    have hG3 := hG2.below hb
    have hb3 := hb2.trans (hb.mono hb2.size)
    clear hb hO2 hG2 hb2
    have hlen := takeR_length zs t
    have hok := Lib.hid (@take_ok zs t)
    have hmost := Lib.hid (@take_most zs t)
    obtain ⟨LL, hLL⟩ : ∃ LL, (takeR zs t).1 = LL := ⟨_, rfl⟩
    obtain ⟨tt, htt⟩ : ∃ tt, (takeR zs t).2.1 = tt := ⟨_, rfl⟩
    obtain ⟨bb, hbb⟩ : ∃ bb, (takeR zs t).2.2 = bb := ⟨_, rfl⟩
    rw [hLL, htt, hbb] at hok
    rw [hbb] at hmost
    rw [hLL] at hlen hG3 hW3 ⊢
    rw [htt, hbb]
    clear hLL htt hbb
    have q1 : (bb != bb) = false := by simp
    have q2 : (tt != tt) = false := by simp
    have q3 : (bb == bb) = true := by simp
    have q4 : (tt == tt) = true := by simp
    go_wp2_with fail
    with_reducible refine (sameSpace_self aG aW _ cG cW LL _ hG3.rd hW3.rd hG3.wf (by omega)).mono ?_
    rintro e w4 ⟨rfl, hb⟩
    have hO4 := hO3.below hb
    have hG4 := hG3.below hb
    have hW4 := hW3.below hb
    have hb4 := hb3.trans (hb.mono hb3.size)
    clear hb hO3 hG3 hW3 hb3
    by_cases hbt : bb = true
    · subst hbt
      obtain ⟨hv, hm0, hm1, hr⟩ := hok.out rfl
      have htg := take_give hv hm0 hr
      have hsp := takeX_spec hm0 hv hr
      simp only at hsp
      obtain ⟨_, htt0, htt1, _, _⟩ := hsp
      have HTG := Lib.hid htg
      clear hok hmost hv hr htg
      go_wp2_with fail
      with_reducible refine (implSpaceGive_any aG LL.length cG LL tt t _ hG4.rd hG4.wf (by omega) ⟨by omega, by omega⟩ ⟨by omega, by omega⟩).mono ?_
      rw [HTG.out]
      rintro e w5 ⟨aX, cX, rfl, hX5, hb⟩
      have hO5 := hO4.below hb
      have hb5 := hb4.trans (hb.mono hb4.size)
      clear hb
      go_wp2_with fail
      with_reducible refine (sameSpace_self aX a1 _ cX c1 zs _ hX5.rd hO5.rd hX5.wf (by omega)).mono ?_
      rintro e w6 ⟨rfl, hb⟩
      have hb6 := hb5.trans (hb.mono hb5.size)
      clear hb
      go_wp2
      go_ret
      exact ⟨rfl, hb6⟩
    · have hbf : bb = false := by simpa using hbt
      subst hbf
      clear hok hmost hbt
      go_wp2_with fail
      with_reducible refine (sameSpace_self aG aW _ cG cW LL _ hG4.rd hW4.rd hG4.wf (by omega)).mono ?_
      rintro e w5 ⟨rfl, hb⟩
      have hb5 := hb4.trans (hb.mono hb4.size)
      clear hb
      go_wp2
      go_ret
      exact ⟨rfl, hb5⟩
  · go_enter Try.func3, Try.ntmps3
    go_wp2
    go_ret
    exact ⟨rfl, Below.refl _ _⟩

end Go.Proofs.Ythcjelijpeddbaa
