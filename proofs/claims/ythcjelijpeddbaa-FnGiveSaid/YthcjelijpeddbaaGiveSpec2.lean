/- Contract of spec's SpaceGive, joined. -/
import Derived.Test.YthcjelijpeddbaaGiveSpec
namespace Go.Proofs.Ythcjelijpeddbaa
open Go.RowKit
set_option linter.unusedVariables false

theorem one_rd (w : World) (f m : Int) (n : Nat) (hn : w.heap.size = n) : RdX (w.alloc (.cells #[.int .i64 f, .int .i64 m] 32)) (some ⟨n, 0, none⟩) 1 [(f, m)] := by
  subst hn
  refine ⟨rfl, fun i hi => ⟨w.heap.size, 0, rfl, by simp, fun j hj => ?_⟩⟩
  obtain rfl : j = 0 := by omega
  rw [cell_of_row _ w.heap.size _ _ _ (0, 0) (heap_alloc_new w _), cell_of_row _ w.heap.size _ _ _ (0, 0) (heap_alloc_new w _)]
  exact ⟨rfl, rfl⟩

set_option maxHeartbeats 1000000 in
theorem specGive_bad (a : Option Addr) (n c : Nat) (xs : List (Int × Int)) (f m : Int) (w : World) (hr : RdX w a n xs) (hwf : WfX xs) (hn : n ≤ 4611686018427387904)
    (hf : -9223372036854775808 ≤ f ∧ f ≤ 9223372036854775807) (hm : -9223372036854775808 ≤ m ∧ m ≤ 9223372036854775807) (h : ¬ (spaceV xs = true ∧ validX (f, m) = true)) :
    Calls Try.prog 14 #[.slice a n c, .agg #[.int .i64 f, .int .i64 m]] w (RetG w [] false) := by
  have hb0 := boxBelow w (.cells #[.int .i64 f, .int .i64 m] 32)
  have hr0 := hr.below hb0
  have hcase : spaceV xs = false ∨ (spaceV xs = true ∧ spaceV [(f, m)] = false) := by
    rw [spaceV_one]
    cases h1 : spaceV xs with
    | false => exact .inl rfl
    | true =>
      right
      refine ⟨rfl, ?_⟩
      cases h2 : validX (f, m) with
      | false => rfl
      | true => exact absurd ⟨h1, h2⟩ h
  clear h
  have hW1 := wfX_one hf.1 hf.2 hm.1 hm.2
  rcases hcase with h1 | ⟨h1, h2⟩
  · go_enter Try.func14, Try.ntmps14
    go_wp2_with fail
    with_reducible refine (specSpaceValid_any a n c xs _ hr0 hwf hn).mono ?_
    rintro e w2 ⟨rfl, hb2⟩
    have hb3 := hb0.trans (hb2.mono hb0.size)
    rw [h1]
    clear h1
    go_wp2
    go_ret2
    exact ⟨_, _, rfl, OwnX.empty hb3.size, hb3.alloc hb3.size _⟩
  · have HW1 := Lib.hid hW1
    go_enter Try.func14, Try.ntmps14
    go_wp2_with fail
    with_reducible refine (specSpaceValid_any a n c xs _ hr0 hwf hn).mono ?_
    rintro e w2 ⟨rfl, hb2⟩
    obtain ⟨b0, b1, hb3, hlt⟩ := box_keep hb2
    rw [h1]
    clear h1 hb2
    have hr1 := one_rd w2 f m w2.heap.size rfl
    have hb4 := hb3.alloc hb3.size (.cells #[.int .i64 f, .int .i64 m] 32)
    go_wp2_with fail
    with_reducible refine (specSpaceValid_any (some ⟨w2.heap.size, 0, none⟩) 1 1 [(f, m)] _ hr1 HW1.out (by omega)).mono ?_
    rintro e w3 ⟨rfl, hb⟩
    have hb5 := hb4.trans (hb.mono hb4.size)
    rw [h2]
    clear h2 hb
    go_wp2
    go_ret2
    exact ⟨_, _, rfl, OwnX.empty hb5.size, hb5.alloc hb5.size _⟩

set_option maxHeartbeats 4000000 in
theorem specGive_go (a : Option Addr) (n c : Nat) (xs : List (Int × Int)) (f m : Int) (w : World) (hr : RdX w a n xs) (hwf : WfX xs) (hn : n ≤ 4611686018427387904)
    (hv : spaceV xs = true) (hx : validX (f, m) = true) :
    Calls Try.prog 14 #[.slice a n c, .agg #[.int .i64 f, .int .i64 m]] w (RetG w (giveR xs (f, m)).1 (giveR xs (f, m)).2) := by
  have hl := Lib.hid hr.1
  have hb0 := boxBelow w (.cells #[.int .i64 f, .int .i64 m] 32)
  have hr0 := hr.below hb0
  have vx := (validX_iff _).1 hx
  simp only at vx
  obtain ⟨v0, v1, v2, v3⟩ := vx
  have hcnt := space_count hv
  have HW1 := Lib.hid (wfX_one (f := f) (m := m) (by omega) (by omega) (by omega) (by omega))
  have HX1 := Lib.hid (show spaceV [(f, m)] = true by rw [spaceV_one]; exact hx)
  have HV := Lib.hid hv
  have HX := Lib.hid hx
  clear hx
  go_enter Try.func14, Try.ntmps14
  go_wp2_with fail
  with_reducible refine (specSpaceValid_any a n c xs _ hr0 hwf hn).mono ?_
  rintro e w2 ⟨rfl, hb2⟩
  obtain ⟨b0, b1, hb3, hlt⟩ := box_keep hb2
  rw [hv]
  clear hv hb2
  have hr1 := one_rd w2 f m w2.heap.size rfl
  have hb4 := hb3.alloc hb3.size (.cells #[.int .i64 f, .int .i64 m] 32)
  have b00 := (World.cell?_alloc_lt w2 (.cells #[.int .i64 f, .int .i64 m] 32) ⟨w.heap.size, 0, none⟩ hlt).trans b0
  have b11 := (World.cell?_alloc_lt w2 (.cells #[.int .i64 f, .int .i64 m] 32) ⟨w.heap.size, 1, none⟩ hlt).trans b1
  go_wp2_with fail
  with_reducible refine (specSpaceValid_any (some ⟨w2.heap.size, 0, none⟩) 1 1 [(f, m)] _ hr1 HW1.out (by omega)).mono ?_
  rintro e w3 ⟨rfl, hb⟩
  have hb5 := hb4.trans (hb.mono hb4.size)
  have hlt1 : w.heap.size < (w2.alloc (.cells #[.int .i64 f, .int .i64 m] 32)).heap.size := by simp; omega
  have x0 := (hb.cell (p := ⟨w.heap.size, 0, none⟩) hlt1).trans b00
  have x1 := (hb.cell (p := ⟨w.heap.size, 1, none⟩) hlt1).trans b11
  have hlt3 : w.heap.size < w3.heap.size := Nat.lt_of_lt_of_le hlt1 hb.size
  rw [HX1.out]
  clear hb b0 b1 b00 b11 hb3 hb4 hr1 hlt1 hlt hr0
  go_wp2
  go_loopw [6] (fun i wr => ∃ k : Nat, k ≤ n ∧ i = .int .i64 k ∧ Hid (∀ j, j < k → meets (xs.getD j (0, 0)) (f, m) = false) ∧ Below w3.heap.size w3 wr)
    (fun i _ => n - (intOf i).toNat)
  case atStart => exact ⟨0, Nat.zero_le _, rfl, Lib.hid (fun j h => by omega), Below.refl _ _⟩
  case round =>
    obtain ⟨k, hk, rfl, hme, hbr⟩ := hrel
    have hbw := hb5.trans (hbr.mono hb5.size)
    have y0 := (hbr.cell (p := ⟨w.heap.size, 0, none⟩) hlt3).trans x0
    have y1 := (hbr.cell (p := ⟨w.heap.size, 1, none⟩) hlt3).trans x1
    have hll := hl.out
    by_cases hlt : k < n
    · obtain ⟨b, off, rfl, hblt, g, q, hfm, cf, cm, ⟨wf0, wf1⟩, wm0, wm1⟩ := (hr.below hbw).at_ hwf hlt
      have hkl : k < xs.length := by omega
      have hmv := valid_at HV.out hkl
      rw [hfm, validX_iff] at hmv
      simp only at hmv
      obtain ⟨g0, g1, g2, g3⟩ := hmv
      have hk0 : (0 : Int) ≤ (k : Int) := by omega
      have hk1 : (k : Int) < (n : Int) := by omega
      have HFM := Lib.hid hfm
      have hbD : Below w3.heap.size w3 wr.drew := below_drewN hbr 1
      clear hfm
      go_wp2
      go_still_tail 5, (by kernel_rfl)
      change wpList _ _ _ _ _ wr.drew
      generalize wr.drew = W at hbD ⊢
      go_wp2_with fail
      with_reducible refine (l21Meets_any g q f m _ (by omega) (by omega) (by omega) (by omega) (by omega) (by omega) (by omega) (by omega)).mono ?_
      rintro e w4 ⟨rfl, hb⟩
      have hb6 := hbD.trans (hb.mono hbD.size)
      clear hb
      by_cases hmt : meets (g, q) (f, m) = true
      · have HN : Hid (giveR xs (f, m) = ([], false)) := Lib.hid (giveR_bad (fun h => by
          have := meetsL_false.1 h.2.2 _ (getD_mem_pair hkl)
          rw [HFM.out, hmt] at this; cases this))
        have hb7 := hb5.trans (hb6.mono hb5.size)
        rw [hmt]
        clear hmt
        go_wp2
        go_ret2
        rw [HN.out]
        exact ⟨_, _, rfl, OwnX.empty hb7.size, hb7.alloc hb7.size _⟩
      · have hmf : meets (g, q) (f, m) = false := by simpa using hmt
        have HM : Hid (∀ j, j < k + 1 → meets (xs.getD j (0, 0)) (f, m) = false) := Lib.hid (fun j h => by
          rcases Nat.lt_or_ge j k with h' | h'
          · exact hme.out j h'
          · obtain rfl : j = k := by omega
            rw [HFM.out]; exact hmf)
        rw [hmf]
        clear hmt hmf
        go_wp2
        go_roundw
        case rel => exact ⟨k + 1, by omega, by go_num, HM, hb6⟩
        case measure => simp [intOf]; omega
    · obtain rfl : k = n := by omega
      have hgood : spaceV xs = true ∧ validX (f, m) = true ∧ meetsL xs (f, m) = false := ⟨HV.out, HX.out, meetsL_false.2 (fun y hy => by
        obtain ⟨j, hj, rfl⟩ := List.getElem_of_mem hy
        have := hme.out j (by omega)
        simpa [List.getD_eq_getElem?_getD, hj] using this)⟩
      have HG := Lib.hid (giveR_good hgood)
      have hvT := insertL_valid hgood.2.1 (validT_of hgood.1) v0 (meetsL_false.1 hgood.2.2)
      have HT := Lib.hid hvT
      have hil := insertL_length (f, m) xs
      clear hgood hvT
      go_wp2_with fail
      with_reducible refine (l21Insert_any a _ c xs f m _ (hr.below hbw) hwf (by omega) ⟨by omega, by omega⟩ ⟨by omega, by omega⟩).mono ?_
      rintro e w4 ⟨aA, cA, rfl, hOA, hb⟩
      have hbA := hbw.trans (hb.mono hbw.size)
      obtain ⟨ys, hys⟩ : ∃ ys, insertL (f, m) xs = ys := ⟨_, rfl⟩
      rw [hys] at HT hil hOA ⊢
      have hil2 : ys.length ≤ 101 := by omega
      clear hil
      have HYS := Lib.hid hys
      have hrA := hOA.rd
      have hwA := hOA.wf
      have hO0 : OwnX (w4.alloc (.cells #[] 32)) w4.heap.size (some ⟨w4.heap.size, 0, none⟩) 0 [] := OwnX.empty (Nat.le_refl _)
      have hbs := boxBelow w4 (.cells #[] 32)
      clear hb hOA hys
      go_wp2
      go_loopw [8, 9] (fun v i wr => ∃ k : Nat, k ≤ ys.length ∧ i = .int .i64 k ∧ ∃ (zs : List (Int × Int)) (a' : Option Addr) (c' : Nat) (L : Nat), v = .slice a' L c' ∧ zs.length = L ∧ Hid (zs = (ys.take k).foldl mstep []) ∧ OwnX wr w4.heap.size a' c' zs ∧ Below w4.heap.size w4 wr)
        (fun _ i _ => ys.length - (intOf i).toNat)
      case atStart => exact ⟨0, Nat.zero_le _, rfl, [], _, _, 0, rfl, rfl, Lib.hid (by simp), hO0, hbs⟩
      case round =>
        obtain ⟨k, hk, rfl, zs, a', c', L, rfl, hL, hZ, hO, hbr⟩ := hrel
        have hbk := hbA.trans (hbr.mono hbA.size)
        have hvz := fold_valid HT.out k
        rw [← hZ.out] at hvz
        have hcz := space_count hvz
        by_cases hlt : k < ys.length
        · obtain ⟨bA, offA, rfl, hbltA, g, q, hfm, cf, cm, _, _, _⟩ := (hrA.below hbr).at_ hwA hlt
          have hyv := validT_at HT.out hlt
          have hft := foldl_take hlt
          rw [← hZ.out] at hft
          rw [hfm, validX_iff] at hyv
          rw [hfm] at hft
          simp only at hyv
          obtain ⟨g0, g1, g2, g3⟩ := hyv
          have hk0 : (0 : Int) ≤ (k : Int) := by omega
          have hk1 : (k : Int) < (ys.length : Int) := by omega
          have HW2 := Lib.hid (wfX_one (f := g) (m := q) (by omega) (by omega) (by omega) (by omega))
          clear hfm
          cases L with
          | zero =>
            obtain rfl : zs = [] := List.eq_nil_of_length_eq_zero hL
            rw [mstep_nil] at hft
            have HFT := Lib.hid hft
            have HN := Lib.hid (newX wr g q)
            clear hft hvz
            go_wp2
            go_quiet (fail)
            go_wp2_with (at_builtin; refine wp_appX rfl _ _ rfl rfl rfl ((hO.drewN nq).alloc _) ⟨wr.heap.size, 0, none⟩ 1 1 [(g, q)] rfl rfl HN.out HW2.out (by omega) (by have := hbr.size; simp; omega) ?_; intro a2 c2 w5 hO2 hG2)
            have hb2 := (below_drewN (hbr.alloc hbr.size (.cells #[.int .i64 g, .int .i64 q] 32)) nq).grown hG2 (by have := hbr.size; simp; omega) (fun r hr => (hO.2.lt r hr).1)
            rw [List.nil_append] at hO2
            clear hG2 hO hbr HN
            go_roundw
            case rel => exact ⟨k + 1, by omega, by go_num, [(g, q)], a2, c2, 0 + 1, rfl, rfl, Lib.hid HFT.out.symm, hO2, hb2⟩
            case measure => simp [intOf]; omega
          | succ n' =>
            obtain ⟨G, rfl, hBG, hGs⟩ := hO.head (by omega)
            obtain ⟨f1, m1, hlast⟩ : ∃ f1 m1, zs.getD n' (0, 0) = (f1, m1) := ⟨_, _, rfl⟩
            have hc := hO.cells n' (by omega)
            have hlv := valid_at hvz (k := n') (by omega)
            rw [hlast] at hc
            rw [hlast, validX_iff] at hlv
            simp only at hlv hc
            obtain ⟨⟨p0, p1⟩, p2, p3⟩ := hc
            obtain ⟨l0, l1, l2, l3⟩ := hlv
            have n0 : (0 : Int) ≤ (n' : Int) := by omega
            have n1 : (n' : Int) < (n' : Int) + 1 := by omega
            have s1 : IntKind.i64.wrap (f1 + m1) = f1 + m1 := IntWalk.i64_in _ (by omega)
            have s2 : IntKind.i64.wrap (m1 + q) = m1 + q := IntWalk.i64_in _ (by omega)
            by_cases he : f1 + m1 = g
            · have HFT := Lib.hid (hft.trans (mstep_join hL hlast he))
              have HSL : Hid ((zs.set n' (f1, m1 + q)).length = n' + 1) := Lib.hid (by rw [List.length_set, hL])
              have HL1 := Lib.hid hlast
              have d1 : ((f1 + m1) == g) = true := by rw [beq_iff_eq]; exact he
              clear hft he hvz hlast
              go_wp2
              go_quiet (fail)
              have hOd := hO.drewN nq
              have hbd := below_drewN hbr nq
              have p1d : (wr.drewN nq).cell? ⟨G, n' * 2 + 1, none⟩ = some (.int .i64 m1) := p1
              have p3d : (wr.drewN nq).frozen? ⟨G, n' * 2 + 1, none⟩ = false := p3
              have cmd : (wr.drewN nq).cell? ⟨bA, offA + k * 2 + 1, none⟩ = some (.int .i64 q) := cm
              generalize wr.drewN nq = wd at hOd hbd p1d p3d cmd ⊢
              have hset := hOd.set2 n' (by omega) (m1 + q) (by omega) (by omega)
              rw [HL1.out] at hset
              have HS := Lib.hid hset.1
              have hb2 := below_drewN (hbd.grown hset.2 hbd.size (fun r hr => by injection hr with hr; omega)) 1
              clear hset hO hbr p0 p1 p2 p3 cf cm hOd
              go_wp2
              go_still_tail 15, (by kernel_rfl)
              go_wp2
              go_roundw
              case rel => exact ⟨k + 1, by omega, by go_num, zs.set n' (f1, m1 + q), some ⟨G, 0, none⟩, c', n' + 1, rfl, HSL.out, Lib.hid HFT.out.symm, HS.out, hb2⟩
              case measure => simp [intOf]; omega
            · have HFT := Lib.hid (hft.trans (mstep_apart hL hlast he))
              have d1 : ((f1 + m1) == g) = false := by rw [beq_eq_false_iff_ne]; exact he
              have HN := Lib.hid (newX wr g q)
              clear hft he hvz hlast
              go_wp2
              go_quiet (fail)
              go_wp2_with (at_builtin; refine wp_appX rfl _ _ rfl hL rfl ((hO.drewN nq).alloc _) ⟨wr.heap.size, 0, none⟩ 1 1 [(g, q)] rfl rfl HN.out HW2.out (by omega) (by have := hbr.size; simp; omega) ?_; intro a2 c2 w5 hO2 hG2)
              have hb2 := (below_drewN (hbr.alloc hbr.size (.cells #[.int .i64 g, .int .i64 q] 32)) nq).grown hG2 (by have := hbr.size; simp; omega) (by rw [← hL]; exact fun r hr => (hO.2.lt r hr).1)
              have hL2 : (zs ++ [(g, q)]).length = n' + 1 + 1 := by simp [hL]
              clear hG2 hO hbr HN
              go_roundw
              case rel => exact ⟨k + 1, by omega, by go_num, zs ++ [(g, q)], a2, c2, n' + 1 + 1, rfl, hL2, Lib.hid HFT.out.symm, hO2, hb2⟩
              case measure => simp [intOf]; omega
        · obtain rfl : k = ys.length := by omega
          have hz2 : Hid (giveL xs (f, m) = zs) := Lib.hid (by
            have := hZ.out
            rw [List.take_of_length_le (Nat.le_refl _)] at this
            rw [this, giveL, HYS.out])
          go_wp2
          go_ret2
          rw [HG.out, hz2.out]
          exact ⟨a', c', by rw [hL]; rfl, hO.mono hbA.size, hbk⟩

theorem specSpaceGive_any (a : Option Addr) (n c : Nat) (xs : List (Int × Int)) (f m : Int) (w : World) (hr : RdX w a n xs) (hwf : WfX xs) (hn : n ≤ 4611686018427387904)
    (hf : -9223372036854775808 ≤ f ∧ f ≤ 9223372036854775807) (hm : -9223372036854775808 ≤ m ∧ m ≤ 9223372036854775807) :
    Calls Try.prog 14 #[.slice a n c, .agg #[.int .i64 f, .int .i64 m]] w (RetG w (giveR xs (f, m)).1 (giveR xs (f, m)).2) := by
  by_cases h : spaceV xs = true ∧ validX (f, m) = true
  · exact specGive_go a n c xs f m w hr hwf hn h.1 h.2
  · rw [giveR_bad (fun h' => h ⟨h'.1, h'.2.1⟩)]
    exact specGive_bad a n c xs f m w hr hwf hn hf hm h

end Go.Proofs.Ythcjelijpeddbaa
