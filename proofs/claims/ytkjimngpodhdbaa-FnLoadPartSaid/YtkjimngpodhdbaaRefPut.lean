/- Contract of StorePut. -/
import Derived.Test.YtkjimngpodhdbaaRefWith
namespace Go.Proofs.Ytkjimngpodhdbaa
open Go.RowKit
set_option linter.unusedVariables false

/-- A store with a block put, its id, and whether it went. -/
def RetPut (w : World) (e : Ending) (w' : World) : Prop :=
  ∃ ys a c id ok, e = .returned (.tuple #[.slice a ys.length c, .int .i64 id, .bool ok]) ∧ storeV (valsH ys) = true ∧ 0 ≤ id ∧ id ≤ 1000 ∧ OwnJ w' w.heap.size a c ys ∧ Below w.heap.size w w'

theorem RetPut.no (w w' : World) (hb : Below w.heap.size w w') : RetPut w (.returned (.tuple #[.slice (some ⟨w'.heap.size, 0, none⟩) 0 0, .int .i64 0, .bool false])) (w'.alloc (.cells #[] 47)) :=
  ⟨[], _, _, 0, false, rfl, by decide, by omega, by omega, OwnJ.empty hb.size, hb.alloc hb.size _⟩

theorem store_valid {xs : List HV} (h : storeV (valsH xs) = true) : xs.length ≤ 16 ∧ (∀ x ∈ xs, 1 ≤ x.zs.length ∧ x.zs.length ≤ 1048576) ∧ (∀ x ∈ xs, WfI x.zs) ∧ (∀ x ∈ xs, x.zs.length ≤ 8) ∧ ∀ x ∈ xs, 1 ≤ x.id ∧ x.id ≤ 99 := by
  have hk : ∀ x ∈ xs, 1 ≤ x.id ∧ x.id ≤ 99 ∧ blockV x.zs = true := by
    intro x hx
    obtain ⟨k, hk, rfl⟩ := List.getElem_of_mem hx
    exact (store_ids h (List.getElem?_eq_getElem hk)).1
  refine ⟨?_, fun x hx => ?_, fun x hx => (blockV_wf (hk x hx).2.2).1, fun x hx => (blockV_wf (hk x hx).2.2).2, fun x hx => ⟨(hk x hx).1, (hk x hx).2.1⟩⟩
  · have := (chainV_iff.1 (storeV_iff.1 h).1).1
    rwa [valsH_len] at this
  · have h1 := (blockV_parts (hk x hx).2.2).2.1
    have h2 := (blockV_wf (hk x hx).2.2).2
    omega

theorem store_us {xs : List HV} (h : storeV (valsH xs) = true) : ∀ x ∈ xs, 1 ≤ x.us ∧ x.us ≤ 999 := by
  intro x hx
  obtain ⟨_, h2, _⟩ := chain_pairwise befH_trans (storeV_iff.1 h).1
  have hok := h2 x.val (List.mem_map_of_mem hx)
  unfold okH at hok
  rw [Bool.and_eq_true, Bool.and_eq_true] at hok
  have hid := hok.2
  simp only [inB, Bool.and_eq_true, decide_eq_true_eq] at hid
  exact hid

theorem mem_get? {α : Type} {xs : List α} {k : Nat} {x : α} (h : xs[k]? = some x) : x ∈ xs := List.mem_of_getElem? h

set_option maxHeartbeats 1000000 in
theorem StorePut_any (a : Option Addr) (n c : Nat) (xs : List HV) (a' : Option Addr) (c' : Nat) (bz : List Int) (w : World) (hr : RdR eltH w a n xs) (hin : InH w xs) (hs : ∀ x ∈ xs, x.zs.length ≤ 4611686018427387904) (hn : n ≤ 4611686018427387904)
    (hb' : RdI w a' bz.length bz) (hbl : bz.length ≤ 1048576) :
    Calls Try.prog 51 #[.slice a n c, .slice a' bz.length c'] w (RetPut w) := by
  have hl := Lib.hid hr.1
  have K := specStoreValid_any a n c xs w hr hin hs hn
  cases hv : storeV (valsH xs) with
  | false =>
    rw [hv] at K
    clear hv
    go_enter Try.func51, Try.ntmps51
    go_wp2_with fail
    with_reducible refine K.mono ?_
    rintro e w1 ⟨rfl, hb⟩
    go_wp2
    go_ret3
    exact RetPut.no w w1 hb
  | true =>
    rw [hv] at K
    obtain ⟨hn16, hs1, hwf, hs8, hids⟩ := store_valid hv
    rw [hr.1] at hn16
    have HS1 := Lib.hid hs1
    have HWF := Lib.hid hwf
    have HV1 := Lib.hid hv
    clear hv hs1 hwf hs8 hids
    go_enter Try.func51, Try.ntmps51
    go_wp2_with fail
    with_reducible refine K.mono ?_
    rintro e w1 ⟨rfl, hb1⟩
    have K2 := still_of (specBlockValid_any a' bz.length c' bz w1 (hb'.below hb1) (by omega))
    clear K
    cases hbv : blockV bz with
    | false =>
      rw [hbv] at K2
      clear hbv
      go_wp2_with fail
      with_reducible refine K2.mono ?_
      rintro e w2 ⟨rfl, hw⟩
      subst hw
      go_wp2
      go_ret3
      exact RetPut.no w _ hb1
    | true =>
      rw [hbv] at K2
      have hbz := blockV_wf hbv
      have hbz1 := (blockV_parts hbv).2.1
      have HBW := Lib.hid hbz.1
      have hbz8 := hbz.2
      clear hbv hbz
      go_wp2_with fail
      with_reducible refine K2.mono ?_
      rintro e w2 ⟨rfl, hw⟩
      subst hw
      clear K2
      have K := l3Copy_any a n c xs w2 (hr.below hb1) (hin.below hb1) HS1.out HWF.out (by omega)
      go_wp2_with fail
      with_reducible refine K.mono ?_
      rintro e w3 ⟨ys, a3, c3, rfl, hyl, hyv, hJ3, hb23⟩
      rw [hl.out] at hyl ⊢
      have hb3 := hb1.trans (hb23.mono hb1.size)
      have hJ3 := hJ3.mono hb1.size
      have HYV := Lib.hid hyv
      have HYL := Lib.hid hyl
      clear K hb23 hyv hyl hb1
      have K := l3Like_any a n c xs a' bz.length c' bz w3 (hr.below hb3) (hin.below hb3) hs hn (hb'.below hb3) (by omega)
      go_wp2_with fail
      with_reducible refine K.mono ?_
      rintro e w4 ⟨r, rfl, hrr, hb34⟩
      have hb4 := hb3.trans (hb34.mono hb3.size)
      have hJ4 := hJ3.below hb34
      clear K hb34 hJ3 hb3
      have K := l3Free_any a n c xs w4 (hr.below hb4) (by omega)
      go_wp2_with fail
      with_reducible refine K.mono ?_
      rintro e w5 ⟨f, rfl, hf1, hf2, hb45⟩
      have hb5 := hb4.trans (hb45.mono hb4.size)
      have hJ5 := hJ4.below hb45
      clear K hb45 hJ4 hb4
      rcases hrr with rfl | ⟨k, rfl, hkn⟩
      · -- a new block
        have K := l3With_any a n c xs a' c' bz w5 (hr.below hb5) (hin.below hb5) HS1.out HWF.out (by omega) (hb'.below hb5) HBW.out ⟨hbz1, by omega⟩
        clear hJ5
        go_wp2_with fail
        with_reducible refine K.mono ?_
        rintro e w6 ⟨zs, a6, c6, rfl, hzl, hzs, hJ6, hb56⟩
        have hb6 := hb5.trans (hb56.mono hb5.size)
        have hJ6 := hJ6.mono hb5.size
        obtain ⟨L, hL⟩ : ∃ L, zs.length = L := ⟨_, rfl⟩
        have K := specStoreValid_any a6 L c6 zs w6 (by have := hJ6.row.rd; rwa [hL] at this) hJ6.inn (fun x hx => by have := hzs x hx; omega) (by omega)
        rw [hL]
        have HL := Lib.hid hL
        clear hb56 hL
        cases hvz : storeV (valsH zs) with
        | false =>
          rw [hvz] at K
          clear hvz
          go_wp2_with fail
          with_reducible refine K.mono ?_
          rintro e w7 ⟨rfl, hb67⟩
          go_wp2
          go_ret3
          exact RetPut.no w w7 (hb6.trans (hb67.mono hb6.size))
        | true =>
          rw [hvz] at K
          have HVZ := Lib.hid hvz
          clear hvz
          go_wp2_with fail
          with_reducible refine K.mono ?_
          rintro e w7 ⟨rfl, hb67⟩
          have hJ7 := hJ6.below hb67
          have hb7 := hb6.trans (hb67.mono hb6.size)
          clear hJ6 hb67 hb6 K
          go_wp2
          go_ret3
          exact ⟨zs, a6, c6, f, true, by rw [HL.out]; rfl, HVZ.out, by omega, by omega, hJ7, hb7⟩
      · -- once more
        obtain ⟨g, rfl, hBg, hgl⟩ := hJ5.row.head (by rw [HYL.out]; omega)
        obtain ⟨y, hy⟩ : ∃ y, ys[k]? = some y := ⟨_, List.getElem?_eq_getElem (by rw [HYL.out]; omega)⟩
        obtain ⟨⟨d0, d1, d2⟩, f0, f1, f2⟩ := cellsH hJ5.row hy
        have hidy : 1 ≤ y.id ∧ y.id ≤ 99 := by
          have hvy : storeV (valsH ys) = storeV (valsH xs) := by rw [HYV.out]
          have hv : storeV (valsH xs) = true := HV1.out
          exact (store_valid (hvy.trans hv)).2.2.2.2 y (mem_get? hy)
        have husy : 1 ≤ y.us ∧ y.us ≤ 999 := by
          have hvy : storeV (valsH ys) = storeV (valsH xs) := by rw [HYV.out]
          exact store_us (hvy.trans HV1.out) y (mem_get? hy)
        have hus : IntKind.i64.wrap (y.us + 1) = y.us + 1 := IntWalk.i64_in _ (by omega)
        have hset := hJ5.row.set1 k y ⟨y.id, y.ad, y.cp, y.zs, y.us + 1⟩ hy 2 (.int .i64 (y.us + 1)) (by decide) rfl
        have hJ6 : OwnJ (w5.setCell ⟨g, k * 3 + 2, none⟩ (.int .i64 (y.us + 1))) w.heap.size (some ⟨g, 0, none⟩) c3 (ys.set k ⟨y.id, y.ad, y.cp, y.zs, y.us + 1⟩) := by
          refine ⟨hset.1, fun z hz => ?_⟩
          rcases List.mem_or_eq_of_mem_set hz with h' | rfl
          · exact (hJ5.ins z h').kindKept hJ5.row eltH_ty rfl hset.2
          · exact (hJ5.ins y (mem_get? hy)).kindKept hJ5.row eltH_ty rfl hset.2
        have hb6 : Below w.heap.size w (w5.setCell ⟨g, k * 3 + 2, none⟩ (.int .i64 (y.us + 1))) := hb5.grown hset.2 hb5.size (fun r hr => by injection hr with hr; omega)
        have hk0 : (0 : Int) ≤ (k : Int) := by omega
        have hkI : (k : Int) < (n : Int) := by omega
        have hkd : decide ((0 : Int) ≤ (k : Int)) = true := by simp
        have HJ6 := Lib.hid hJ6
        have HB6 := Lib.hid hb6
        have hlz := Lib.hid (show (ys.set k ⟨y.id, y.ad, y.cp, y.zs, y.us + 1⟩).length = n by rw [List.length_set, HYL.out])
        have HZL := Lib.hid (show ∀ z ∈ ys.set k ⟨y.id, y.ad, y.cp, y.zs, y.us + 1⟩, z.zs.length ≤ 1048576 by
          intro z hz
          have h1 := vals_len HYV.out (fun x hx => (HS1.out x hx).2)
          rcases List.mem_or_eq_of_mem_set hz with h' | rfl
          · exact h1 z h'
          · exact h1 y (mem_get? hy))
        clear hset hJ6 hb6 hJ5 hy d1 f0 f1
        go_wp2_with fail
        generalize w5.setCell ⟨g, k * 3 + 2, none⟩ (.int .i64 (y.us + 1)) = w6 at HJ6 HB6 ⊢
        generalize ys.set k ⟨y.id, y.ad, y.cp, y.zs, y.us + 1⟩ = zs at HJ6 hlz HZL
        clear d0 d2 f2 hus husy
        have K := specStoreValid_any (some ⟨g, 0, none⟩) n c3 zs w6 (by have := HJ6.out.row.rd; rwa [hlz.out] at this) HJ6.out.inn (fun x hx => by have := HZL.out x hx; omega) hn
        cases hvz : storeV (valsH zs) with
        | false =>
          rw [hvz] at K
          clear hvz
          with_reducible refine K.mono ?_
          rintro e w7 ⟨rfl, hb67⟩
          have hb6 := HB6.out
          go_wp2
          go_ret3
          exact RetPut.no w w7 (hb6.trans (hb67.mono hb6.size))
        | true =>
          rw [hvz] at K
          have HVZ := Lib.hid hvz
          clear hvz
          with_reducible refine K.mono ?_
          rintro e w7 ⟨rfl, hb67⟩
          have hJ7 := HJ6.out.below hb67
          have hb7 := HB6.out.trans (hb67.mono HB6.out.size)
          clear hb67 K
          go_wp2
          go_ret3
          exact ⟨zs, _, c3, y.id, true, by rw [hlz.out]; rfl, HVZ.out, by omega, by omega, hJ7, hb7⟩

end Go.Proofs.Ytkjimngpodhdbaa
