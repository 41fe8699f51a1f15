/- Walk of the exact law of SpaceGive. -/
import Derived.Test.YthcjelijpeddbaaGiveSpec2
import Derived.Test.YthcjelijpeddbaaMarkX
import Derived.Test.YthcjelijpeddbaaExtent
import Derived.Test.YthcjelijpeddbaaEqX
import Derived.Test.YthcjelijpeddbaaTr
import Derived.Deep.RegionHeld3
namespace Go.Proofs.Ythcjelijpeddbaa
open Go.RowKit
set_option linter.unusedVariables false

theorem eqX_self (xs : List (Int × Int)) : eqX xs xs = true := by simp [eqX]

theorem heldRdX {w : World} {B : Nat} {a : Option Addr} {c n : Nat} {k : Int} (h : OwnX w B a c (seqX k n)) : RdX w a n (seqX k n) := by
  have := h.rd
  rwa [seqX_length] at this

theorem giveR_length (xs : List (Int × Int)) (x : Int × Int) : (giveR xs x).1.length ≤ 100 := by
  unfold giveR
  split
  · rename_i h
    exact space_count (giveL_spec h.1 h.2.1 (meetsL_false.1 h.2.2)).1
  · simp

/-- The boxed extent, the first block of the call's own. -/
def BoxX (w wk : World) (f m : Int) : Prop := wk.cell? ⟨w.heap.size, 0, none⟩ = some (.int .i64 f) ∧ wk.cell? ⟨w.heap.size, 1, none⟩ = some (.int .i64 m) ∧ w.heap.size < wk.heap.size

theorem BoxX.cells {w wk : World} {f m : Int} (h : BoxX w wk f m) : wk.cell? ⟨w.heap.size, 0, none⟩ = some (.int .i64 f) ∧ wk.cell? ⟨w.heap.size, 1, none⟩ = some (.int .i64 m) := ⟨h.1, h.2.1⟩

theorem BoxX.below {w wk w2 : World} {f m : Int} (h : BoxX w wk f m) (hb : Below wk.heap.size wk w2) : BoxX w w2 f m :=
  ⟨(hb.cell (p := ⟨w.heap.size, 0, none⟩) h.2.2).trans h.1, (hb.cell (p := ⟨w.heap.size, 1, none⟩) h.2.2).trans h.2.1, Nat.lt_of_lt_of_le h.2.2 hb.size⟩

theorem BoxX.belowD {w wk w2 : World} {f m : Int} (h : BoxX w wk f m) (hb : Below wk.drew.heap.size wk.drew w2) : BoxX w w2 f m :=
  ⟨(hb.cell (p := ⟨w.heap.size, 0, none⟩) h.2.2).trans h.1, (hb.cell (p := ⟨w.heap.size, 1, none⟩) h.2.2).trans h.2.1, Nat.lt_of_lt_of_le h.2.2 hb.size⟩

theorem BoxX.grown {w wk w2 : World} {f m : Int} {row : Option Nat} (h : BoxX w wk f m) (hg : wk.grownBy w2 row) (hr : ∀ r, row = some r → w.heap.size < r) : BoxX w w2 f m :=
  ⟨hg.cell (a := ⟨w.heap.size, 0, none⟩) h.1 (fun e => by have h : w.heap.size < w.heap.size := hr _ e.symm; omega), hg.cell (a := ⟨w.heap.size, 1, none⟩) h.2.1 (fun e => by have h : w.heap.size < w.heap.size := hr _ e.symm; omega), Nat.lt_of_lt_of_le h.2.2 hg.size⟩

theorem BoxX.new (w : World) (f m : Int) (t : TypeId) : BoxX w (w.alloc (.cells #[.int .i64 f, .int .i64 m] t)) f m := by
  refine ⟨?_, ?_, by simp⟩
  · rw [cell_of_row _ w.heap.size _ _ _ (0, 0) (heap_alloc_new w _)]; rfl
  · rw [cell_of_row _ w.heap.size _ _ _ (0, 0) (heap_alloc_new w _)]; rfl

set_option maxHeartbeats 4000000 in
theorem FnExactSpaceGive_core (a : Option Addr) (n c : Nat) (zs LL : List (Int × Int)) (f m : Int) (bb : Bool) (w : World) (hr : RdX w a n zs) (hwf : WfX zs) (hn : n ≤ 1048576) (hz : zs.length ≤ 1048576) (hf : -9223372036854775808 ≤ f ∧ f ≤ 9223372036854775807) (hm : -9223372036854775808 ≤ m ∧ m ≤ 9223372036854775807) (hL : LL.length ≤ 1048576000) (hLL : (giveR zs (f, m)).1 = LL) (hbb0 : (giveR zs (f, m)).2 = bb) :
    Calls Try.prog 5 #[.slice a n c, .agg #[.int .i64 f, .int .i64 m]] w (Tr w) := by
  have c1 : ∀ (a : Option Addr) (n c : Nat) (w : World), RdX w a n zs → WfX zs → n ≤ 1048576 → Calls Try.prog 14 #[.slice a n c, .agg #[.int .i64 f, .int .i64 m]] w (RetG w LL bb) := fun a n c w h1 h2 h3 => by rw [← hLL, ← hbb0]; exact specSpaceGive_any a n c zs f m w h1 h2 (by omega) hf hm
  have c2 : ∀ (a : Option Addr) (n c : Nat) (w : World), RdX w a n zs → WfX zs → n ≤ 1048576 → Calls Try.prog 12 #[.slice a n c, .agg #[.int .i64 f, .int .i64 m]] w (RetG w LL bb) := fun a n c w h1 h2 h3 => by rw [← hLL, ← hbb0]; exact implSpaceGive_any a n c zs f m w h1 h2 (by omega) hf hm
  have C1 := Lib.hid c1
  have C2 := Lib.hid c2
  clear c1 c2 hLL hbb0
  · go_enter Try.func5, Try.ntmps5
    obtain ⟨W0, hW0⟩ : ∃ W0 : World, W0 = w.alloc (.cells #[.int .i64 f, .int .i64 m] 37) := ⟨_, rfl⟩
    have hB_0 : Below w.heap.size w W0 := by rw [hW0]; exact boxBelow w _
    have hQ_0 : BoxX w W0 f m := by rw [hW0]; exact BoxX.new w f m _
    have hA_0 := hr.below hB_0
    have HW0 := Lib.hid hW0
    clear hW0
    go_wp2_with fail
    rw [← HW0.out]
    with_reducible refine (szExtentS_ok a n c 1048576 _ (by omega) (by omega) (by omega)).mono ?_
    rintro e w' ⟨rfl, rfl⟩
    have hq := hQ_0
    obtain ⟨y0, y1, hqs⟩ := hQ_0
    go_wp2_with fail
    go_region_held3 (fun w' => w'.cell? ⟨w.heap.size, 0, none⟩ = some (.int .i64 f) ∧ w'.cell? ⟨w.heap.size, 1, none⟩ = some (.int .i64 m))
      (first | go_keep | exact (BoxX.belowD hq hbA).cells | exact (BoxX.below (BoxX.belowD hq hbA) hbB).cells | exact (BoxX.below (BoxX.below (BoxX.belowD hq hbA) hbB) hbC).cells)
      (first
        | (go_at_call 16; refine (toExtentS_any a n c zs _ (by exact hA_0) hwf hn).mono ?_; rintro e wA ⟨aS, cS, rfl, hSA, hbA⟩)
        | (go_at_call 17; refine (toExtent_any f m _).mono ?_; rintro e wB ⟨rfl, hbB⟩)
        | (go_at_call 14; refine (C1.out aS _ cS _ (by exact (hSA.below hbB).rd) hSA.wf (by omega)).mono ?_; rintro e wC ⟨aW, cW, rfl, hRC, hbC⟩))
    have hb_1 : Below W0.heap.size W0 wC := (below_drewN (Below.refl _ _) 1).trans ((hbA.trans (hbB.mono hbA.size)).trans (hbC.mono (Nat.le_trans hbA.size hbB.size)))
    have hszA := Nat.le_trans hbA.size hbB.size
    have hA_1 := hA_0.below hb_1
    have hQ_1 := BoxX.below hq hb_1
    have hW_1 := hRC
    have hB_1 := hB_0.trans (hb_1.mono hB_0.size)
    clear hB_0
    have hsz_1 := hb_1.size
    clear hb_1 hbA hbB hbC hSA hRC hq y0 y1 hqs
    obtain ⟨w1, rfl⟩ : ∃ v : World, v = wC := ⟨_, rfl⟩
    have hq1 := hQ_1.2.2
    have hWlt : ∀ k, (Value.slice aW LL.length cW).ownBlock = some k → k < w1.heap.size := fun k hk => (hW_1.2.lt k hk).2
    go_wp2_with fail
    with_reducible refine (toExtentS_any a n c zs _ hA_1 hwf hn).mono ?_
    rintro e w2 ⟨aX, cX, rfl, hX_2, hb_2⟩
    have hA_2 := hA_1.below hb_2
    have hQ_2 := hQ_1.below hb_2
    have hW_2 := hW_1.below hb_2
    clear hA_1 hQ_1 hW_1
    have hB_2 := hB_1.trans (hb_2.mono hB_1.size)
    clear hB_1
    have hsz_2 := hb_2.size
    clear hb_2
    have hXlt : ∀ k, (Value.slice aX zs.length cX).ownBlock = some k → k < w2.heap.size := fun k hk => (hX_2.2.lt k hk).2
    obtain ⟨y0, y1, _⟩ := hQ_2
    go_wp2_with fail
    with_reducible refine (toExtent_any f m _).mono ?_
    rintro e w3 ⟨rfl, hb_3⟩
    have hQ_3 : BoxX w w3 f m := BoxX.below ⟨y0, y1, by assumption⟩ hb_3
    have hA_3 := hA_2.below hb_3
    have hW_3 := hW_2.below hb_3
    have hX_3 := hX_2.below hb_3
    clear hA_2 hW_2 hX_2
    have hB_3 := hB_2.trans (hb_3.mono hB_2.size)
    clear hB_2
    have hsz_3 := hb_3.size
    clear hb_3 y0 y1
    go_wp2_with fail
    with_reducible refine (C2.out aX _ cX _ hX_3.rd hX_3.wf (by omega)).mono ?_
    rintro e w4 ⟨aG, cG, rfl, hG_4, hb_4⟩
    have hA_4 := hA_3.below hb_4
    have hQ_4 := hQ_3.below hb_4
    have hW_4 := hW_3.below hb_4
    have hX_4 := hX_3.below hb_4
    clear hA_3 hQ_3 hW_3 hX_3
    have hB_4 := hB_3.trans (hb_4.mono hB_3.size)
    clear hB_3
    have hsz_4 := hb_4.size
    clear hb_4
    have hbb : (bb != bb) = false := by simp
    go_wp2_with fail
    with_reducible refine (eqExtentS_any aG aW _ _ cG cW LL LL _ hG_4.rd hW_4.rd hG_4.wf hW_4.wf (by omega) (by omega)).mono ?_
    rintro e w5 ⟨rfl, hb_5⟩
    rw [eqX_self]
    have hA_5 := hA_4.below hb_5
    have hQ_5 := hQ_4.below hb_5
    have hW_5 := hW_4.below hb_5
    have hX_5 := hX_4.below hb_5
    have hG_5 := hG_4.below hb_5
    clear hA_4 hQ_4 hW_4 hX_4 hG_4
    have hB_5 := hB_4.trans (hb_5.mono hB_4.size)
    clear hB_4
    clear hb_5
    go_wp2_with fail
    with_reducible refine (toExtentS_any a n c zs _ hA_5 hwf hn).mono ?_
    rintro e w6 ⟨aY, cY, rfl, hY_6, hb_6⟩
    have hA_6 := hA_5.below hb_6
    have hQ_6 := hQ_5.below hb_6
    have hW_6 := hW_5.below hb_6
    have hX_6 := hX_5.below hb_6
    have hG_6 := hG_5.below hb_6
    clear hA_5 hQ_5 hW_5 hX_5 hG_5
    have hB_6 := hB_5.trans (hb_6.mono hB_5.size)
    clear hB_5
    have hsz_6 := hb_6.size
    clear hb_6
    go_wp2_with fail
    with_reducible refine (eqExtentS_any aX aY _ _ cX cY zs zs _ hX_6.rd hY_6.rd hX_6.wf hY_6.wf (by omega) (by omega)).mono ?_
    rintro e w7 ⟨rfl, hb_7⟩
    rw [eqX_self]
    have hA_7 := hA_6.below hb_7
    have hQ_7 := hQ_6.below hb_7
    have hW_7 := hW_6.below hb_7
    have hX_7 := hX_6.below hb_7
    have hG_7 := hG_6.below hb_7
    have hY_7 := hY_6.below hb_7
    clear hA_6 hQ_6 hW_6 hX_6 hG_6 hY_6
    have hB_7 := hB_6.trans (hb_7.mono hB_6.size)
    clear hB_6
    clear hb_7
    clear hY_7
    go_wp2_with fail
    with_reducible refine (markExtentS_any _ aX cX zs 1 _ hX_7 (by omega) (by omega) (by omega)).mono ?_
    rintro e w8 ⟨rfl, hX_8, hg_8⟩
    have hW_8 := (hW_7).apart hg_8 (fun k hk r hr => by have := hWlt k hk; have := (hX_7.2.lt r hr).1; omega)
    have hG_8 := (hG_7).apart hg_8 (fun k hk r hr => by have := hXlt r hr; have := (hG_7.2.lt k hk).1; omega)
    have hB_8 := hB_7.grown hg_8 hB_7.size (fun r hr => by have := (hX_7.2.lt r hr).1; omega)
    have hA_8 := hr.below hB_8
    have hQ_8 := BoxX.grown hQ_7 hg_8 (fun r hr => by have := (hX_7.2.lt r hr).1; omega)
    clear hB_7 hg_8 hA_7 hQ_7 hW_7 hX_7 hG_7
    clear hX_8
    go_wp2_with fail
    with_reducible refine (eqExtentS_any aG aW _ _ cG cW LL LL _ hG_8.rd hW_8.rd hG_8.wf hW_8.wf (by omega) (by omega)).mono ?_
    rintro e w9 ⟨rfl, hb_9⟩
    rw [eqX_self]
    have hA_9 := hA_8.below hb_9
    have hQ_9 := hQ_8.below hb_9
    have hW_9 := hW_8.below hb_9
    have hG_9 := hG_8.below hb_9
    clear hA_8 hQ_8 hW_8 hG_8
    have hB_9 := hB_8.trans (hb_9.mono hB_8.size)
    clear hB_8
    clear hb_9
    go_wp2_with fail
    with_reducible refine (markExtentS_any _ aG cG LL 1 _ hG_9 (by omega) (by omega) (by omega)).mono ?_
    rintro e w10 ⟨rfl, hG_10, hg_10⟩
    have hW_10 := (hW_9).apart hg_10 (fun k hk r hr => by have := hWlt k hk; have := (hG_9.2.lt r hr).1; omega)
    have hB_10 := hB_9.grown hg_10 hB_9.size (fun r hr => by have := (hG_9.2.lt r hr).1; omega)
    have hA_10 := hr.below hB_10
    have hQ_10 := BoxX.grown hQ_9 hg_10 (fun r hr => by have := (hG_9.2.lt r hr).1; omega)
    clear hB_9 hg_10 hA_9 hQ_9 hW_9 hG_9
    go_wp2_with fail
    with_reducible refine (heldExtentS_any aG _ cG 1 _ (heldRdX hG_10) (by omega) (by omega) (by omega)).mono ?_
    rintro e w' ⟨rfl, rfl⟩
    have hqq : ((1 + 2 * (LL.length : Int)) != 1 + 2 * (LL.length : Int)) = false := by simp
    clear hszA
    have hq := hQ_10
    obtain ⟨y0, y1, hqs⟩ := hQ_10
    go_wp2_with fail
    go_region_held3 (fun w' => w'.cell? ⟨w.heap.size, 0, none⟩ = some (.int .i64 f) ∧ w'.cell? ⟨w.heap.size, 1, none⟩ = some (.int .i64 m))
      (first | go_keep | exact (BoxX.belowD hq hbA).cells | exact (BoxX.below (BoxX.belowD hq hbA) hbB).cells | exact (BoxX.below (BoxX.below (BoxX.belowD hq hbA) hbB) hbC).cells)
      (first
        | (go_at_call 16; refine (toExtentS_any a n c zs _ (by exact hA_10) hwf hn).mono ?_; rintro e wA ⟨aT, cT, rfl, hSA, hbA⟩)
        | (go_at_call 17; refine (toExtent_any f m _).mono ?_; rintro e wB ⟨rfl, hbB⟩)
        | (go_at_call 12; refine (C2.out aT _ cT _ (by exact (hSA.below hbB).rd) hSA.wf (by omega)).mono ?_; rintro e wC ⟨aH, cH, rfl, hRC, hbC⟩))
    have hb_11 : Below w10.heap.size w10 wC := (below_drewN (Below.refl _ _) 1).trans ((hbA.trans (hbB.mono hbA.size)).trans (hbC.mono (Nat.le_trans hbA.size hbB.size)))
    have hszA := Nat.le_trans hbA.size hbB.size
    have hA_11 := hA_10.below hb_11
    have hQ_11 := BoxX.below hq hb_11
    have hH_11 := hRC
    have hW_11 := hW_10.below hb_11
    have hG_11 := hG_10.below hb_11
    clear hW_10 hG_10
    have hB_11 := hB_10.trans (hb_11.mono hB_10.size)
    clear hB_10
    have hsz_11 := hb_11.size
    clear hb_11 hbA hbB hbC hSA hRC hq y0 y1 hqs
    obtain ⟨w11, rfl⟩ : ∃ v : World, v = wC := ⟨_, rfl⟩
    go_wp2_with fail
    with_reducible refine (eqExtentS_any aH aW _ _ cH cW LL LL _ hH_11.rd hW_11.rd hH_11.wf hW_11.wf (by omega) (by omega)).mono ?_
    rintro e w12 ⟨rfl, hb_12⟩
    rw [eqX_self]
    have hA_12 := hA_11.below hb_12
    have hQ_12 := hQ_11.below hb_12
    have hW_12 := hW_11.below hb_12
    have hG_12 := hG_11.below hb_12
    have hH_12 := hH_11.below hb_12
    clear hA_11 hQ_11 hW_11 hG_11 hH_11
    have hB_12 := hB_11.trans (hb_12.mono hB_11.size)
    clear hB_11
    clear hb_12
    go_wp2_with fail
    with_reducible refine (heldExtentS_any aG _ cG 1 _ (heldRdX hG_12) (by omega) (by omega) (by omega)).mono ?_
    rintro e w' ⟨rfl, rfl⟩
    go_wp2
    go_ret
    exact ⟨rfl, hB_12⟩

theorem FnExactSpaceGive_walk (a : Option Addr) (n c : Nat) (zs : List (Int × Int)) (f m : Int) (w : World) (hr : RdX w a n zs) (hwf : WfX zs) (hm : n ≤ maxLen) (hf : -9223372036854775808 ≤ f ∧ f ≤ 9223372036854775807) (hm2 : -9223372036854775808 ≤ m ∧ m ≤ 9223372036854775807) :
    Calls Try.prog 5 #[.slice a n c, .agg #[.int .i64 f, .int .i64 m]] w (Tr w) := by
  unfold maxLen at hm
  by_cases hn : n ≤ 1048576
  · exact FnExactSpaceGive_core a n c zs _ f m _ w hr hwf hn (by have := hr.1; omega) hf hm2 (by have := giveR_length zs (f, m); omega) rfl rfl
  · go_enter Try.func5, Try.ntmps5
    go_wp2_with fail
    refine (szExtentS_no a n c 1048576 _ (by omega) (by omega) (by omega) (by omega)).mono ?_
    rintro e w' ⟨rfl, rfl⟩
    go_wp2
    go_ret
    exact ⟨rfl, boxBelow w _⟩

end Go.Proofs.Ythcjelijpeddbaa
