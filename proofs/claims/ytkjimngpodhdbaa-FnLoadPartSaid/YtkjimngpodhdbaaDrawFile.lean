/- Contracts of l91File and of the draws of blocks and files. -/
import Derived.Test.YtkjimngpodhdbaaDraw
namespace Go.Proofs.Ytkjimngpodhdbaa
open Go.RowKit

/-- n zeros. -/
def zeros (n : Nat) : Array Value := ((List.replicate n 0).map (Value.int .i64)).toArray

theorem run_make33 (w : World) : (Instr.makeSlice 32 (.int .i64 33) (.int .i64 33)).run Try.prog w = .ok (.slice (some ⟨w.heap.size, 0, none⟩) 33 33) (w.alloc (.cells (zeros 33) 3)) := by
  kernel_rfl

theorem own_zeros (w : World) (B : Nat) (hB : B ≤ w.heap.size) : OwnI (w.alloc (.cells (zeros 33) 3)) B (some ⟨w.heap.size, 0, none⟩) 33 (List.replicate 33 0) := by
  refine ⟨fun z hz => by rw [List.eq_of_mem_replicate hz]; omega, ?_⟩
  have := World.ownsRow_lit (e := 3) (size := 1) (base := B) w (zeros 33) 33 hB (by unfold maxLen; omega) (by simp [zeros])
  simpa [zeros] using this

/-- The sizes of which a file's is drawn. -/
def sizes : List Int := [0, 1, 7, 8, 9, 16, 17, 32]
theorem sizes_at (w : World) (x : Int) (h0 : 0 ≤ x) (h1 : x < 8) : ∃ y : Int, (w.alloc (.cells #[.int .i64 0, .int .i64 1, .int .i64 7, .int .i64 8, .int .i64 9, .int .i64 16, .int .i64 17, .int .i64 32] 3)).cell? ⟨w.heap.size, x.toNat, none⟩ = some (.int .i64 y) ∧ 0 ≤ y ∧ y ≤ 32 := by
  rw [cell_of_row _ w.heap.size _ _ _ (0, 0) (heap_alloc_new w _)]
  obtain rfl | rfl | rfl | rfl | rfl | rfl | rfl | rfl : x = 0 ∨ x = 1 ∨ x = 2 ∨ x = 3 ∨ x = 4 ∨ x = 5 ∨ x = 6 ∨ x = 7 := by omega
  all_goals exact ⟨_, rfl, by omega, by omega⟩

set_option maxHeartbeats 4000000 in
theorem l91File_any (B g : Nat) (p : Int) (w : World) (hr : Rdr w B g p) (hp : p ≤ 1000000000) :
    Calls Try.prog 41 #[.pointer (some ⟨g, 0, none⟩)] w (DrewI w B g p 33) := by
  have hgl := hr.lt
  go_enter Try.func41, Try.ntmps41
  go_wp2_with fail
  have hD := ((Drawn.start hr).alloc (.cells #[] 3)).alloc (.cells #[.int .i64 0, .int .i64 1, .int .i64 7, .int .i64 8, .int .i64 9, .int .i64 16, .int .i64 17, .int .i64 32] 3)
  have hO := (OwnI.empty (w := w) (Nat.le_refl w.heap.size)).alloc (.cells #[.int .i64 0, .int .i64 1, .int .i64 7, .int .i64 8, .int .i64 9, .int .i64 16, .int .i64 17, .int .i64 32] 3)
  refine (pickD _ hD (by omega)).mono ?_
  rintro e wn ⟨xn, rfl, xn0, xn1, hDn, hGn⟩
  have xn2 := xn1 (by omega)
  have hOn := hO.grown hGn hgl
  clear xn1
  obtain ⟨N, hcell, hN0, hN1⟩ := sizes_at (w.alloc (.cells #[] 3)) xn xn0 xn2
  have hcell := hGn.cell hcell (by show some (w.alloc _).heap.size ≠ some g; simp; omega)
  rw [show (w.alloc (Obj.cells #[] 3)).heap.size = w.heap.size + 1 by simp] at hcell
  clear hGn hO hD hr
  go_wp2_with fail
  refine (pickD _ hDn (by omega)).mono ?_
  rintro e wc ⟨xc, rfl, xc0, xc1, hDc, hGc⟩
  have xc2 := xc1 (by omega)
  have hOc := hOn.grown hGc hgl
  clear xc1
  clear hGc hOn hDn hcell
  by_cases hc0 : xc = 0
  · subst hc0
    go_wp2_with fail
    refine (pickD _ hDc (by omega)).mono ?_
    rintro e wm ⟨xm, rfl, xm0, xm1, hDm, hGm⟩
    have xm2 := xm1 (by omega)
    have hOm := hOc.grown hGm hgl
    clear xm1
    clear hGm hOc hDc
    go_wp2_with fail
    refine (pickD _ hDm (by omega)).mono ?_
    rintro e wb ⟨xb, rfl, xb0, xb1, hDb, hGb⟩
    have xb2 := xb1 (by omega)
    have hOb := hOm.grown hGb hgl
    clear xb1
    clear hGb hOm hDm
    go_wp2_with fail
    go_loopw [3, 6] (fun v i wr => ∃ k : Nat, (k : Int) ≤ xm ∧ i = .int .i64 k ∧ ∃ zs a c, v = .slice a zs.length c ∧ zs.length ≤ k ∧ k ≤ zs.length ∧ OwnI wr w.heap.size a c zs ∧ Drawn w wr B g (p + 4 + 2 * k))
      (fun _ i _ => (xm - intOf i).toNat)
    case atStart => exact ⟨0, by omega, rfl, [], _, _, rfl, Nat.le_refl _, Nat.le_refl _, hOb, hDb.le (by omega)⟩
    case round =>
      clear hOb hDb
      obtain ⟨k, hk, rfl, zs, a, c, rfl, hz, hz', hO, hD⟩ := hrel
      by_cases hlt : (k : Int) < xm
      · go_wp2_with fail
        refine (pickD _ hD (by omega)).mono ?_
        rintro e wA ⟨xA, rfl, xA0, xA1, hDA, hGA⟩
        have xA2 := xA1 (by omega)
        have hOA := hO.grown hGA hgl
        clear xA1
        clear hGA hO hD
        have hq : 0 ≤ (k : Int) / 8 ∧ (k : Int) / 8 ≤ 4 := by omega
        obtain ⟨hq0, hq1⟩ := hq
        have hm : 0 ≤ (k : Int) / 8 * xA ∧ (k : Int) / 8 * xA ≤ 4 := by
          obtain rfl | rfl : xA = 0 ∨ xA = 1 := by omega
          all_goals omega
        obtain ⟨hm0, hm1⟩ := hm
        go_wp2_with fail
        refine (pickD _ hDA (by omega)).mono ?_
        rintro e wC ⟨xC, rfl, xC0, xC1, hDC, hGC⟩
        have xC2 := xC1 (by omega)
        have hOC := hOA.grown hGC hgl
        clear xC1
        clear hGC hOA hDA
        have hsz : w.heap.size ≤ wC.heap.size := hDC.2.size
        go_wp2_with (at_builtin; refine wp_app rfl _ _ rfl rfl (hOC.alloc _) ⟨wC.heap.size, 0, none⟩ 1 1 [xb + (k : Int) / 8 * xA + xC / 5] rfl rfl (cell_one_new _ _ _) (wf_one (by omega) (by omega)) (by omega) (by simp; omega) ?_; intro a2 c2 w2 hO2 hG2)
        have hD2 : Drawn w w2 B g (p + 4 + 2 * ((k + 1 : Nat) : Int)) := (hDC.alloc _).step hG2 (own_row hOC hgl) |>.le (by omega)
        clear hG2 hDC hOC
        go_roundw
        case rel => exact ⟨k + 1, by omega, by go_num, _, _, _, by simp, by rw [List.length_append, List.length_singleton]; omega, by rw [List.length_append, List.length_singleton]; omega, hO2, hD2⟩
        case measure => simp [intOf]; omega
      · have HK := Lib.hid (show (k : Int) = xm by omega)
        go_wp2_with fail
        refine (pickD _ hD (by omega)).mono ?_
        rintro e wS ⟨xS, rfl, xS0, xS1, hDS, hGS⟩
        have xS2 := xS1 (by omega)
        have hOS := hO.grown hGS hgl
        clear xS1
        clear hGS hO hD
        by_cases hs0 : xS = 0
        · subst hs0
          by_cases hn0 : 0 < xm
          · have h0 : 0 < zs.length := by omega
            obtain ⟨gg, rfl, hBg, hgg⟩ := hOS.head h0
            go_wp2_with fail
            refine (pickD _ hDS (by omega)).mono ?_
            rintro e wN ⟨xN, rfl, xN0, xN1, hDN, hGN⟩
            have xN2 := xN1 (by omega)
            have hON := hOS.grown hGN hgl
            clear xN1
            clear hOS hDS hGN
            have hset := hON.set xN.toNat 256 (by omega) (by omega)
            have hxk : xN < (zs.length : Int) := by have := HK.out; omega
            have hold := hON.2.cellAt xN.toNat (by omega)
            rw [getElem?_ints zs xN.toNat (by omega)] at hold
            have hfr := hON.2.frozenAt xN.toNat
            have HS := Lib.hid hset
            have hD2 := hDN.step hset.2 (fun r e => by injection e; omega)
            clear hset hON hDN
            go_wp2
            go_ret
            exact ⟨zs.set xN.toNat 256, _, _, by simp, by simp; omega, HS.out.1, hD2.le (by omega)⟩
          · go_wp2
            go_ret
            exact ⟨zs, a, _, rfl, by omega, hOS, hDS.le (by omega)⟩
        · have hn0 : (xS == 0) = false := by simp [hs0]
          by_cases hs1 : xS = 1
          · subst hs1
            have hmk : ∀ w' : World, (Instr.makeSlice 32 (.int .i64 33) (.int .i64 33)).run Try.prog w' = .ok (.slice (some ⟨w'.heap.size, 0, none⟩) 33 33) (w'.alloc (.cells (zeros 33) 3)) := run_make33
            go_wp2
            go_ret
            exact ⟨List.replicate 33 0, _, _, rfl, by simp, own_zeros _ _ hDS.2.size, (hDS.alloc _).le (by omega)⟩
          · have hn1 : (xS == 1) = false := by simp [hs1]
            go_wp2
            go_ret
            exact ⟨zs, a, _, rfl, by omega, hOS, hDS.le (by omega)⟩
  · have hc1 : (xc == 0) = false := by simp [hc0]
    go_wp2_with fail
    refine (pickD _ hDc (by omega)).mono ?_
    rintro e wb ⟨xb, rfl, xb0, xb1, hDb, hGb⟩
    have xb2 := xb1 (by omega)
    have hOb := hOc.grown hGb hgl
    clear xb1
    clear hGb hOc hDc
    go_wp2_with fail
    go_loopw [3, 6] (fun v i wr => ∃ k : Nat, (k : Int) ≤ N ∧ i = .int .i64 k ∧ ∃ zs a c, v = .slice a zs.length c ∧ zs.length ≤ k ∧ k ≤ zs.length ∧ OwnI wr w.heap.size a c zs ∧ Drawn w wr B g (p + 4 + 2 * k))
      (fun _ i _ => (N - intOf i).toNat)
    case atStart => exact ⟨0, by omega, rfl, [], _, _, rfl, Nat.le_refl _, Nat.le_refl _, hOb, hDb.le (by omega)⟩
    case round =>
      clear hOb hDb
      obtain ⟨k, hk, rfl, zs, a, c, rfl, hz, hz', hO, hD⟩ := hrel
      by_cases hlt : (k : Int) < N
      · go_wp2_with fail
        refine (pickD _ hD (by omega)).mono ?_
        rintro e wA ⟨xA, rfl, xA0, xA1, hDA, hGA⟩
        have xA2 := xA1 (by omega)
        have hOA := hO.grown hGA hgl
        clear xA1
        clear hGA hO hD
        have hq : 0 ≤ (k : Int) / 8 ∧ (k : Int) / 8 ≤ 4 := by omega
        obtain ⟨hq0, hq1⟩ := hq
        have hm : 0 ≤ (k : Int) / 8 * xA ∧ (k : Int) / 8 * xA ≤ 4 := by
          obtain rfl | rfl : xA = 0 ∨ xA = 1 := by omega
          all_goals omega
        obtain ⟨hm0, hm1⟩ := hm
        go_wp2_with fail
        refine (pickD _ hDA (by omega)).mono ?_
        rintro e wC ⟨xC, rfl, xC0, xC1, hDC, hGC⟩
        have xC2 := xC1 (by omega)
        have hOC := hOA.grown hGC hgl
        clear xC1
        clear hGC hOA hDA
        have hsz : w.heap.size ≤ wC.heap.size := hDC.2.size
        go_wp2_with (at_builtin; refine wp_app rfl _ _ rfl rfl (hOC.alloc _) ⟨wC.heap.size, 0, none⟩ 1 1 [xb + (k : Int) / 8 * xA + xC / 5] rfl rfl (cell_one_new _ _ _) (wf_one (by omega) (by omega)) (by omega) (by simp; omega) ?_; intro a2 c2 w2 hO2 hG2)
        have hD2 : Drawn w w2 B g (p + 4 + 2 * ((k + 1 : Nat) : Int)) := (hDC.alloc _).step hG2 (own_row hOC hgl) |>.le (by omega)
        clear hG2 hDC hOC
        go_roundw
        case rel => exact ⟨k + 1, by omega, by go_num, _, _, _, by simp, by rw [List.length_append, List.length_singleton]; omega, by rw [List.length_append, List.length_singleton]; omega, hO2, hD2⟩
        case measure => simp [intOf]; omega
      · have HK := Lib.hid (show (k : Int) = N by omega)
        go_wp2_with fail
        refine (pickD _ hD (by omega)).mono ?_
        rintro e wS ⟨xS, rfl, xS0, xS1, hDS, hGS⟩
        have xS2 := xS1 (by omega)
        have hOS := hO.grown hGS hgl
        clear xS1
        clear hGS hO hD
        by_cases hs0 : xS = 0
        · subst hs0
          by_cases hn0 : 0 < N
          · have h0 : 0 < zs.length := by omega
            obtain ⟨gg, rfl, hBg, hgg⟩ := hOS.head h0
            go_wp2_with fail
            refine (pickD _ hDS (by omega)).mono ?_
            rintro e wN ⟨xN, rfl, xN0, xN1, hDN, hGN⟩
            have xN2 := xN1 (by omega)
            have hON := hOS.grown hGN hgl
            clear xN1
            clear hOS hDS hGN
            have hset := hON.set xN.toNat 256 (by omega) (by omega)
            have hxk : xN < (zs.length : Int) := by have := HK.out; omega
            have hold := hON.2.cellAt xN.toNat (by omega)
            rw [getElem?_ints zs xN.toNat (by omega)] at hold
            have hfr := hON.2.frozenAt xN.toNat
            have HS := Lib.hid hset
            have hD2 := hDN.step hset.2 (fun r e => by injection e; omega)
            clear hset hON hDN
            go_wp2
            go_ret
            exact ⟨zs.set xN.toNat 256, _, _, by simp, by simp; omega, HS.out.1, hD2.le (by omega)⟩
          · go_wp2
            go_ret
            exact ⟨zs, a, _, rfl, by omega, hOS, hDS.le (by omega)⟩
        · have hn0 : (xS == 0) = false := by simp [hs0]
          by_cases hs1 : xS = 1
          · subst hs1
            have hmk : ∀ w' : World, (Instr.makeSlice 32 (.int .i64 33) (.int .i64 33)).run Try.prog w' = .ok (.slice (some ⟨w'.heap.size, 0, none⟩) 33 33) (w'.alloc (.cells (zeros 33) 3)) := run_make33
            go_wp2
            go_ret
            exact ⟨List.replicate 33 0, _, _, rfl, by simp, own_zeros _ _ hDS.2.size, (hDS.alloc _).le (by omega)⟩
          · have hn1 : (xS == 1) = false := by simp [hs1]
            go_wp2
            go_ret
            exact ⟨zs, a, _, rfl, by omega, hOS, hDS.le (by omega)⟩

end Go.Proofs.Ytkjimngpodhdbaa
