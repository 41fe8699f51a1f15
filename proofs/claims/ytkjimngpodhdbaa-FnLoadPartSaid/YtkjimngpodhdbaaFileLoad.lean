/- Contracts of l4Ids, l4Load, FileLoad; of fileIds, loadFile and the program's FileLoad. -/
import Derived.Test.YtkjimngpodhdbaaStoreGet
namespace Go.Proofs.Ytkjimngpodhdbaa
open Go.RowKit Go.Maps
set_option linter.unusedVariables false

theorem RdI.at2 {w : World} {a : Option Addr} {n : Nat} {zs : List Int} (h : RdI w a n zs) {i : Nat} (hi : i < n) : ∃ b off, a = some ⟨b, off, none⟩ ∧ b < w.heap.size ∧ w.cell? ⟨b, off + i, none⟩ = some (.int .i64 (zs.getD i 0)) := by
  obtain ⟨b, off, rfl, hlt, hc⟩ := h.2 i hi
  exact ⟨b, off, rfl, hlt, hc i hi⟩

set_option maxHeartbeats 400000 in
theorem l4Ids_any (a : Option Addr) (n c : Nat) (xs : List HV) (a' : Option Addr) (n' c' : Nat) (is : List Int) (w : World) (hr : RdR eltH w a n xs) (hn : n ≤ 4611686018427387904) (hi : RdI w a' n' is) (hn' : n' ≤ 4611686018427387904) :
    Calls Try.prog 37 #[.slice a n c, .slice a' n' c'] w (RetB w (.bool (idsV (valsH xs) is))) := by
  have hl := Lib.hid hr.1
  have hli := Lib.hid hi.1
  go_enter Try.func37, Try.ntmps37
  go_wp2
  go_loopw [5] (fun q wr => ∃ k : Nat, k ≤ n' ∧ q = .int .i64 k ∧ Hid (∀ j, j < k → idAt (valsH xs) is j = true) ∧ Below w.heap.size w wr)
    (fun q _ => n' - (intOf q).toNat)
  case atStart => exact ⟨0, Nat.zero_le _, rfl, Lib.hid (fun j h => by omega), Below.refl _ _⟩
  case round =>
    obtain ⟨k, hk, rfl, hgood, hb⟩ := hrel
    by_cases hlt : k < n'
    · obtain ⟨b, off, rfl, hbl, hcell⟩ := (hi.below hb).at2 hlt
      obtain ⟨y, hy⟩ : ∃ y, is.getD k 0 = y := ⟨_, rfl⟩
      rw [hy] at hcell
      have HY := Lib.hid hy
      have hk0 : (0 : Int) ≤ (k : Int) := by omega
      have hk1 : (k : Int) < (n' : Int) := by omega
      clear hy
      go_wp2_with fail
      with_reducible refine (l3At_any a n c xs y wr (hr.below hb) hn).mono ?_
      rintro e w1 ⟨r, rfl, hA, m, rfl⟩
      have hb1 := below_drewNH hb m
      have hA := Lib.hid hA
      generalize wr.drewN m = w1 at hb1 ⊢
      clear hb hcell
      rcases hA.out.atV with ⟨rfl, h1⟩ | ⟨p, rfl, x, hx, h1⟩
      · have HF := Lib.hid (idsV_bad (vs := valsH xs) (ids := is) (j := k) (by have := hli.out; omega) (idAt_none (by rw [HY.out]; exact h1)))
        clear h1
        go_wp2
        go_ret
        rw [HF.out]
        exact ⟨rfl, hb1⟩
      · have hpn : p < n := by have := hl.out; have := (List.getElem?_eq_some_iff.1 hx).1; omega
        obtain ⟨b2, off2, x', rfl, hbl2, hx', c0, c1, c2⟩ := atH (hr.below hb1) hpn
        obtain rfl : x' = x := Option.some.inj (hx'.symm.trans hx)
        have hp0 : (0 : Int) ≤ (p : Int) := by omega
        have hpI : (p : Int) < (n : Int) := by omega
        have hpneg : decide ((p : Int) < 0) = false := by simp
        have HE := Lib.hid h1
        clear hx hx' h1 c0 c2
        by_cases hlast : k + 1 < n'
        · have hd1 : decide ((k : Int) + 1 < (n' : Int)) = true := by simp; omega
          by_cases hshort : x'.zs.length < 8
          · have hd2 : decide ((x'.zs.length : Int) < 8) = true := by simp; omega
            have HF := Lib.hid (idsV_bad (vs := valsH xs) (ids := is) (j := k) (by have := hli.out; omega) (idAt_short (by rw [HY.out]; exact HE.out) (by have := hli.out; omega) hshort))
            clear hshort
            go_wp2
            go_ret
            rw [HF.out]
            exact ⟨rfl, hb1⟩
          · have hd2 : decide ((x'.zs.length : Int) < 8) = false := by simp; omega
            have HG := Lib.hid (good_step hgood.out (idAt_yes (v := x'.val) (by rw [HY.out]; exact HE.out) (.inr (by show 8 ≤ x'.zs.length; omega))))
            clear hshort
            go_wp2
            go_roundw
            case rel => exact ⟨k + 1, by omega, by go_num, HG, hb1⟩
            case measure => simp [intOf]; omega
        · have hd1 : decide ((k : Int) + 1 < (n' : Int)) = false := by simp; omega
          have HG := Lib.hid (good_step hgood.out (idAt_yes (v := x'.val) (by rw [HY.out]; exact HE.out) (.inl (by have := hli.out; omega))))
          go_wp2
          go_roundw
          case rel => exact ⟨k + 1, by omega, by go_num, HG, hb1⟩
          case measure => simp [intOf]; omega
    · obtain rfl : k = n' := by omega
      have HF := Lib.hid (show idsV (valsH xs) is = decide ((k : Int) ≤ 4) by
        rw [idsV_all (by rw [hli.out]; exact hgood.out), hli.out]
        by_cases h : k ≤ 4 <;> simp [h] <;> omega)
      go_wp2
      go_ret
      rw [HF.out]
      exact ⟨rfl, hb⟩

set_option maxHeartbeats 400000 in
theorem l4Load_any (a : Option Addr) (n c : Nat) (xs : List HV) (a' : Option Addr) (n' c' : Nat) (is : List Int) (w : World) (hr : RdR eltH w a n xs) (hin : InH w xs) (hn : n ≤ 4611686018427387904) (hi : RdI w a' n' is) (hv : storeV (valsH xs) = true) (hids : idsV (valsH xs) is = true) :
    Calls Try.prog 38 #[.slice a n c, .slice a' n' c'] w (RetI w (loadL (valsH xs) is)) := by
  have hl := Lib.hid hr.1
  have hli := Lib.hid hi.1
  have HV1 := Lib.hid hv
  have HID := Lib.hid hids
  have HI := Lib.hid hin
  have hn4 : n' ≤ 4 := by have := idsV_len hids; have := hi.1; omega
  clear hv hids hin
  go_enter Try.func38, Try.ntmps38
  go_wp2
  have hO0 : OwnI (w.alloc (.cells #[] 3)) w.heap.size (some ⟨w.heap.size, 0, none⟩) 0 [] := OwnI.empty (Nat.le_refl _)
  have hb0 : Below w.heap.size w (w.alloc (.cells #[] 3)) := (Below.refl _ _).alloc (Nat.le_refl _) _
  go_loopw [5, 6] (fun v q wr => ∃ k : Nat, k ≤ n' ∧ q = .int .i64 k ∧ ∃ zs a c, v = .slice a zs.length c ∧ Hid (zs = loadL (valsH xs) (is.take k)) ∧ zs.length ≤ 8 * k ∧ OwnI wr w.heap.size a c zs ∧ Below w.heap.size w wr)
    (fun _ q _ => n' - (intOf q).toNat)
  case atStart => exact ⟨0, Nat.zero_le _, rfl, [], _, _, rfl, Lib.hid rfl, by simp, hO0, hb0⟩
  case round =>
    clear hO0 hb0
    obtain ⟨k, hk, rfl, zs, a1, c1, rfl, HZ, hz8, hO, hb⟩ := hrel
    by_cases hlt : k < n'
    · obtain ⟨b, off, rfl, hbl, hcell⟩ := (hi.below hb).at2 hlt
      obtain ⟨y, hy⟩ : ∃ y, is.getD k 0 = y := ⟨_, rfl⟩
      rw [hy] at hcell
      have HY := Lib.hid hy
      have hk0 : (0 : Int) ≤ (k : Int) := by omega
      have hk1 : (k : Int) < (n' : Int) := by omega
      clear hy
      go_wp2_with fail
      with_reducible refine (l3At_any a n c xs y wr (hr.below hb) hn).mono ?_
      rintro e w1 ⟨r, rfl, hA, m, rfl⟩
      have hb1 := below_drewNH hb m
      have hO1 := hO.drewN m
      have hA := Lib.hid hA
      generalize wr.drewN m = w1 at hb1 hO1 ⊢
      clear hb hcell hO
      obtain ⟨v, hv1, _⟩ := idAt_some (idsV_at HID.out (j := k) (by have := hli.out; omega))
      rw [HY.out] at hv1
      rcases hA.out.atV with ⟨rfl, h1⟩ | ⟨p, rfl, x, hx, h1⟩
      · rw [h1] at hv1; cases hv1
      · have hpn : p < n := by have := hl.out; have := (List.getElem?_eq_some_iff.1 hx).1; omega
        obtain ⟨b2, off2, x', rfl, hbl2, hx', c0, c1, c2⟩ := atH (hr.below hb1) hpn
        obtain rfl : x' = x := Option.some.inj (hx'.symm.trans hx)
        have hp0 : (0 : Int) ≤ (p : Int) := by omega
        have hpI : (p : Int) < (n : Int) := by omega
        have hbv := (store_ids HV1.out hx).1.2.2
        have hw8 := blockV_wf hbv
        have hx1 := (blockV_parts hbv).2.1
        obtain ⟨ad, hadx, hcl⟩ := (HI.out x' (List.mem_of_getElem? hx)).cellsAt (w' := w1) hx1 hb1
        rw [hadx] at c1
        have HC := Lib.hid hcl
        have HW := Lib.hid hw8.1
        have hl8 := hw8.2
        have HZ2 : Hid (zs ++ x'.zs = loadL (valsH xs) (is.take (k + 1))) := Lib.hid (by
          rw [loadL_succ (by have := hli.out; omega), HY.out, HZ.out]
          unfold bytesV
          rw [h1]; rfl)
        clear hx hx' h1 hv1 hbv hw8 hcl hadx c0 c2
        go_wp2_with (at_builtin; refine wp_app rfl _ _ rfl rfl hO1 ad x'.zs.length x'.cp x'.zs rfl rfl HC.out HW.out (by omega) hb1.size ?_; intro a5 c5 w5 hO5 hG5)
        have hb5 : Below w.heap.size w w5 := hb1.grown hG5 hb1.size (fun r hr => (hO1.blk r hr).1)
        have hz9 : (zs ++ x'.zs).length ≤ 8 * (k + 1) := by rw [List.length_append]; omega
        clear hG5 hO1 hb1 c1
        go_roundw
        case rel => exact ⟨k + 1, by omega, by go_num, _, a5, c5, by rw [List.length_append], HZ2, hz9, hO5, hb5⟩
        case measure => simp [intOf]; omega
    · obtain rfl : k = n' := by omega
      have HF : Hid (zs = loadL (valsH xs) is) := Lib.hid (by have := HZ.out; rwa [List.take_of_length_le (by have := hli.out; omega)] at this)
      go_wp2
      go_ret
      rw [← HF.out]
      exact ⟨a1, c1, rfl, hO, hb⟩

theorem loadR_bad {vs : List (Int × List Int × Int)} {is : List Int} (h : storeV vs = false ∨ idsV vs is = false) : loadR vs is = ([], false) := by
  unfold loadR
  rcases h with h | h <;> rw [h] <;> simp

theorem loadR_yes {vs : List (Int × List Int × Int)} {is : List Int} (h : storeV vs = true) (h' : idsV vs is = true) : loadR vs is = (loadL vs is, true) := by
  unfold loadR; rw [h, h']; rfl

set_option maxHeartbeats 400000 in
theorem specFileLoad_any (a : Option Addr) (n c : Nat) (xs : List HV) (a' : Option Addr) (n' c' : Nat) (is : List Int) (w : World) (hr : RdR eltH w a n xs) (hin : InH w xs) (hs : ∀ x ∈ xs, x.zs.length ≤ 4611686018427387904) (hn : n ≤ 4611686018427387904) (hi : RdI w a' n' is) (hn' : n' ≤ 4611686018427387904) :
    Calls Try.prog 20 #[.slice a n c, .slice a' n' c'] w (RetIB w (loadR (valsH xs) is).1 (loadR (valsH xs) is).2) := by
  have K := specStoreValid_any a n c xs w hr hin hs hn
  cases hv : storeV (valsH xs) with
  | false =>
    rw [hv] at K
    have HG := Lib.hid (loadR_bad (is := is) (.inl hv))
    clear hv
    go_enter Try.func20, Try.ntmps20
    go_wp2_with fail
    with_reducible refine K.mono ?_
    rintro e w1 ⟨rfl, hb⟩
    go_wp2
    go_ret2
    rw [HG.out]
    exact RetIB.emptyI w w1 hb
  | true =>
    rw [hv] at K
    go_enter Try.func20, Try.ntmps20
    go_wp2_with fail
    with_reducible refine K.mono ?_
    rintro e w1 ⟨rfl, hb⟩
    have K := l4Ids_any a n c xs a' n' c' is w1 (hr.below hb) hn (hi.below hb) hn'
    cases hids : idsV (valsH xs) is with
    | false =>
      rw [hids] at K
      have HG := Lib.hid (loadR_bad (vs := valsH xs) (.inr hids))
      clear hids hv
      go_wp2_with fail
      with_reducible refine K.mono ?_
      rintro e w2 ⟨rfl, hb2⟩
      go_wp2
      go_ret2
      rw [HG.out]
      exact RetIB.emptyI w w2 (hb.trans (hb2.mono hb.size))
    | true =>
      rw [hids] at K
      have HG := Lib.hid (loadR_yes hv hids)
      have HV1 := Lib.hid hv
      have HD := Lib.hid hids
      clear hids hv
      go_wp2_with fail
      with_reducible refine K.mono ?_
      rintro e w2 ⟨rfl, hb2⟩
      have hb3 := hb.trans (hb2.mono hb.size)
      have K := l4Load_any a n c xs a' n' c' is w2 (hr.below hb3) (hin.below hb3) hn (hi.below hb3) HV1.out HD.out
      clear hb hb2
      go_wp2_with fail
      with_reducible refine K.mono ?_
      rintro e w4 ⟨a5, c5, rfl, hO, hb⟩
      go_wp2
      go_ret2
      rw [HG.out]
      exact ⟨a5, c5, rfl, hO.mono hb3.size, hb3.trans (hb.mono hb3.size)⟩

set_option maxHeartbeats 400000 in
theorem fileIds_any (b B : Nat) (ys : List HV) (a' : Option Addr) (n' c' : Nat) (is : List Int) (w : World) (hM : StoreM w B b ys) (hv : storeV (valsH ys) = true) (hi : RdI w a' n' is) (hwi : WfI is) (hn' : n' ≤ 4611686018427387904) :
    Calls Try.prog 47 #[.map (some b), .slice a' n' c'] w (RetB w (.bool (idsV (valsH ys) is))) := by
  have hli := Lib.hid hi.1
  have HWI := Lib.hid hwi
  have HV1 := Lib.hid hv
  clear hwi hv
  by_cases h4 : 4 < n'
  · have HF := Lib.hid (show idsV (valsH ys) is = false from idsV_long (by rw [hli.out]; exact h4))
    have d4 : decide ((4 : Int) < (n' : Int)) = true := by simp; omega
    go_enter Try.func47, Try.ntmps47
    go_wp2
    go_ret
    rw [HF.out]
    exact ⟨rfl, Below.refl _ _⟩
  have d4 : decide ((4 : Int) < (n' : Int)) = false := by simp; omega
  go_enter Try.func47, Try.ntmps47
  go_wp2
  go_loopw [14] (fun q wr => ∃ k : Nat, k ≤ n' ∧ q = .int .i64 k ∧ Hid (∀ j, j < k → idAt (valsH ys) is j = true) ∧ Below w.heap.size w wr)
    (fun q _ => n' - (intOf q).toNat)
  case atStart => exact ⟨0, Nat.zero_le _, rfl, Lib.hid (fun j h => by omega), Below.refl _ _⟩
  case round =>
    obtain ⟨k, hk, rfl, hgood, hb⟩ := hrel
    by_cases hlt : k < n'
    · obtain ⟨b2, off, rfl, hbl, hcell⟩ := (hi.below hb).at2 hlt
      have hwy := HWI.out.at_ (i := k) (by have := hli.out; omega)
      obtain ⟨y, hy⟩ : ∃ y, is.getD k 0 = y := ⟨_, rfl⟩
      rw [hy] at hcell hwy
      have HY := Lib.hid hy
      have hk0 : (0 : Int) ≤ (k : Int) := by omega
      have hk1 : (k : Int) < (n' : Int) := by omega
      clear hy
      rcases (hM.below hb).look (WalkArith.wf_i64 hwy) with ⟨h1, hl⟩ | ⟨x, hx, h1, hl⟩
      · have hl1 := hl true
        simp only [if_true] at hl1
        have HF := Lib.hid (idsV_bad (vs := valsH ys) (ids := is) (j := k) (by have := hli.out; omega) (idAt_none (by rw [HY.out]; exact h1)))
        clear hl h1
        go_wp2
        go_ret
        rw [HF.out]
        exact ⟨rfl, hb.alloc hb.size _⟩
      · have hl1 := hl true
        simp only [if_true] at hl1
        unfold valH at hl1
        have HE := Lib.hid h1
        have hx8 : x.zs.length ≤ 8 := (blockV_parts (atV_valid HV1.out h1)).2.2
        obtain ⟨hHl, q0, q1, q2⟩ := one_boxH wr (.int .i64 x.id) (.slice x.ad x.zs.length x.cp) (.int .i64 x.us) 47
        have hb1 := hb.alloc hb.size (.cells #[.int .i64 x.id, .slice x.ad x.zs.length x.cp, .int .i64 x.us] 47)
        clear hl h1 hx
        have hs1 : IntKind.i64.wrap ((n' : Int) - 1) = (n' : Int) - 1 := IntWalk.i64_in _ (by omega)
        by_cases hlast : k + 1 < n'
        · have hd1 : decide ((k : Int) < (n' : Int) - 1) = true := by simp; omega
          by_cases hshort : x.zs.length < 8
          · have hd2 : ((x.zs.length : Int) != 8) = true := by simp; omega
            have HF := Lib.hid (idsV_bad (vs := valsH ys) (ids := is) (j := k) (by have := hli.out; omega) (idAt_short (by rw [HY.out]; exact HE.out) (by have := hli.out; omega) hshort))
            clear hshort
            go_wp2
            go_ret
            rw [HF.out]
            exact ⟨rfl, hb1⟩
          · have hd2 : ((x.zs.length : Int) != 8) = false := by simp; omega
            have HG := Lib.hid (good_step hgood.out (idAt_yes (v := x.val) (by rw [HY.out]; exact HE.out) (.inr (by show 8 ≤ x.zs.length; omega))))
            clear hshort
            go_wp2
            go_roundw
            case rel => exact ⟨k + 1, by omega, by go_num, HG, hb1⟩
            case measure => simp [intOf]; omega
        · have hd1 : decide ((k : Int) < (n' : Int) - 1) = false := by simp; omega
          have HG := Lib.hid (good_step hgood.out (idAt_yes (v := x.val) (by rw [HY.out]; exact HE.out) (.inl (by have := hli.out; omega))))
          go_wp2
          go_roundw
          case rel => exact ⟨k + 1, by omega, by go_num, HG, hb1⟩
          case measure => simp [intOf]; omega
    · obtain rfl : k = n' := by omega
      have HF := Lib.hid (show idsV (valsH ys) is = true by
        rw [idsV_all (by rw [hli.out]; exact hgood.out), hli.out]
        simp; omega)
      go_wp2
      go_ret
      rw [HF.out]
      exact ⟨rfl, hb⟩

theorem field1H (i u : Int) (a : Option Addr) (n c : Nat) (w : World) : (Instr.field 47 (.agg #[.int .i64 i, .slice a n c, .int .i64 u]) 1).run Try.prog w = .ok (.slice a n c) w := by kernel_rfl

set_option maxHeartbeats 400000 in
theorem loadFile_any (b B : Nat) (ys : List HV) (a' : Option Addr) (n' c' : Nat) (is : List Int) (w : World) (hM : StoreM w B b ys) (hv : storeV (valsH ys) = true) (hi : RdI w a' n' is) (hwi : WfI is) (hn' : n' ≤ 4611686018427387904) :
    Calls Try.prog 39 #[.map (some b), .slice a' n' c'] w (RetIB w (loadR (valsH ys) is).1 (loadR (valsH ys) is).2) := by
  have hli := Lib.hid hi.1
  have HWI := Lib.hid hwi
  have HV1 := Lib.hid hv
  have K := fileIds_any b B ys a' n' c' is w hM hv hi hwi hn'
  cases hids : idsV (valsH ys) is with
  | false =>
    rw [hids] at K
    have HG := Lib.hid (loadR_bad (vs := valsH ys) (.inr hids))
    clear hids hv hwi
    go_enter Try.func39, Try.ntmps39
    go_wp2_with fail
    with_reducible refine K.mono ?_
    rintro e w1 ⟨rfl, hb⟩
    go_wp2
    go_ret2
    rw [HG.out]
    exact RetIB.nilI w w1 hb
  | true =>
    rw [hids] at K
    have HG := Lib.hid (loadR_yes hv hids)
    have HD := Lib.hid hids
    have hn4 : n' ≤ 4 := by have := idsV_len hids; have := hi.1; omega
    clear hids hv hwi
    go_enter Try.func39, Try.ntmps39
    go_wp2_with fail
    with_reducible refine K.mono ?_
    rintro e w1 ⟨rfl, hb1⟩
    clear K
    go_wp2
    go_loopw [6, 15] (fun v q wr => ∃ k : Nat, k ≤ n' ∧ q = .int .i64 k ∧ ∃ zs a c, v = .slice a zs.length c ∧ Hid (zs = loadL (valsH ys) (is.take k)) ∧ zs.length ≤ 8 * k ∧ OwnI wr w.heap.size a c zs ∧ Below w.heap.size w wr)
      (fun _ q _ => n' - (intOf q).toNat)
    case atStart => exact ⟨0, Nat.zero_le _, rfl, [], _, _, rfl, Lib.hid rfl, by simp, ⟨(by intro z hz; cases hz), World.ownsRow_nil _ _ _ _⟩, hb1⟩
    case round =>
      clear hb1
      obtain ⟨k, hk, rfl, zs, a1, c1, rfl, HZ, hz8, hO, hb⟩ := hrel
      by_cases hlt : k < n'
      · obtain ⟨b2, off, rfl, hbl, hcell⟩ := (hi.below hb).at2 hlt
        have hwy := HWI.out.at_ (i := k) (by have := hli.out; omega)
        obtain ⟨v, hv1, _⟩ := idAt_some (idsV_at HD.out (j := k) (by have := hli.out; omega))
        obtain ⟨y, hy⟩ : ∃ y, is.getD k 0 = y := ⟨_, rfl⟩
        rw [hy] at hcell hwy hv1
        have HY := Lib.hid hy
        have hk0 : (0 : Int) ≤ (k : Int) := by omega
        have hk1 : (k : Int) < (n' : Int) := by omega
        clear hy
        rcases (hM.below hb).look (WalkArith.wf_i64 hwy) with ⟨h1, hl⟩ | ⟨x, hx, h1, hl⟩
        · rw [h1] at hv1; cases hv1
        · have hl1 := hl false
          simp only [Bool.false_eq_true, if_false] at hl1
          unfold valH at hl1
          have hbv : blockV x.zs = true := atV_valid HV1.out h1
          have hx1 := (blockV_parts hbv).2.1
          have hw8 := blockV_wf hbv
          have hox := ((hM.below hb).ins x hx).rd
          obtain ⟨ad, hadx, hcl⟩ := hox.cellsAt hx1 (Below.refl _ _)
          rw [hadx] at hl1
          have hfl := field1H x.id x.us (some ad) x.zs.length x.cp wr
          have HC := Lib.hid hcl
          have HW := Lib.hid hw8.1
          have hl8 := hw8.2
          have HZ2 : Hid (zs ++ x.zs = loadL (valsH ys) (is.take (k + 1))) := Lib.hid (by
            rw [loadL_succ (by have := hli.out; omega), HY.out, HZ.out]
            unfold bytesV
            rw [h1]; rfl)
          clear hx h1 hv1 hbv hw8 hcl hadx hl hox
          go_wp2_with (at_builtin; refine wp_app rfl _ _ rfl rfl hO ad x.zs.length x.cp x.zs rfl rfl HC.out HW.out (by omega) hb.size ?_; intro a5 c5 w5 hO5 hG5)
          have hb5 : Below w.heap.size w w5 := hb.grown hG5 hb.size (fun r hr => (hO.blk r hr).1)
          have hz9 : (zs ++ x.zs).length ≤ 8 * (k + 1) := by rw [List.length_append]; omega
          clear hG5 hO hb hl1 hcell hfl
          go_roundw
          case rel => exact ⟨k + 1, by omega, by go_num, _, a5, c5, by rw [List.length_append], HZ2, hz9, hO5, hb5⟩
          case measure => simp [intOf]; omega
      · obtain rfl : k = n' := by omega
        have HF : Hid (zs = loadL (valsH ys) is) := Lib.hid (by have := HZ.out; rwa [List.take_of_length_le (by have := hli.out; omega)] at this)
        go_wp2
        go_ret2
        rw [HG.out, ← HF.out]
        exact ⟨a1, c1, rfl, hO, hb⟩

set_option maxHeartbeats 400000 in
theorem implFileLoad_any (a : Option Addr) (n c : Nat) (xs : List HV) (a' : Option Addr) (n' c' : Nat) (is : List Int) (w : World) (hr : RdR eltH w a n xs) (hin : InH w xs) (hs : ∀ x ∈ xs, x.zs.length ≤ 4611686018427387904) (hn : n ≤ c) (hc : c ≤ 9223372036854775807) (hi : RdI w a' n' is) (hwi : WfI is) (hn' : n' ≤ 4611686018427387904) :
    Calls Try.prog 22 #[.slice a n c, .slice a' n' c'] w (RetIB w (loadR (valsH xs) is).1 (loadR (valsH xs) is).2) := by
  have K := openStore_any a n c xs w hr hin hs hn hc
  go_enter Try.func22, Try.ntmps22
  go_wp2_with fail
  with_reducible refine K.mono ?_
  rintro e w1 (⟨hv, rfl, hb⟩ | ⟨hv, b, ys, rfl, hys, hM, hb⟩)
  · have HG := Lib.hid (loadR_bad (is := is) (.inl hv))
    clear hv
    go_wp2
    go_ret2
    rw [HG.out]
    exact RetIB.nilI w w1 hb
  · have K := loadFile_any b _ ys a' n' c' is w1 hM (by rw [hys]; exact hv) (hi.below hb) hwi hn'
    rw [hys] at K
    clear hv hys
    go_wp2_with fail
    with_reducible refine K.mono ?_
    rintro e w2 ⟨a5, c5, rfl, hO, hb2⟩
    go_wp2
    go_ret2
    exact ⟨a5, c5, rfl, hO.mono hb.size, hb.trans (hb2.mono hb.size)⟩

end Go.Proofs.Ytkjimngpodhdbaa
