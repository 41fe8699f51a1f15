/- Contract of the draw of a tree. -/
import Derived.Test.YtdjpaibjelfhnaaDrawT
import Derived.Test.YtdjpaibjelfhnaaRegion
import Derived.Deep.RegionHeld3
import Derived.Deep.LoopGhost
import Derived.Deep.DeepCutAuto
import Derived.IntWalk
namespace Go.Proofs.Ytdjpaibjelfhnaa
open Go.RowKit
set_option linter.unusedVariables false
set_option linter.unusedSimpArgs false

theorem GX.start {w wr W : World} {B g : Nat} {lim : Int} {a : Option Addr} {c L : Nat} {zs : List TV} (h : DT w wr B g lim W a c L zs) : GX w W B g lim W none none :=
  ⟨World.grownBy.refl _ _, h.drawn, Nat.lt_of_lt_of_le h.lt h.grow.size, Nat.le_trans h.le h.grow.size, (by intro s hs; cases hs), (by intro b hb; cases hb)⟩

theorem GX.startD {w wr W : World} {B g : Nat} {lim : Int} {a : Option Addr} {c L : Nat} {zs : List TV} (h : DT w wr B g lim W a c L zs) : GX w W B g lim W.drew none none :=
  (GX.start h).pick (W' := W.drew) (h.drawn.step (row := none) ⟨rfl, rfl, rfl, Nat.le_refl _, fun _ _ _ => rfl⟩ (fun r e => by cases e)) ⟨rfl, rfl, rfl, Nat.le_refl _, fun _ _ _ => rfl⟩

theorem newIT (W : World) (y : Int) : ∀ j u, ([y].map (Value.int .i64))[j]? = some u → (W.alloc (.cells #[.int .i64 y] 3)).cell? ((⟨W.heap.size, 0, none⟩ : Addr).add j) = some u := by
  intro j u hj
  rw [Addr.add_lit, cell_of_row _ W.heap.size _ _ _ (0, 0) (heap_alloc_new W _)]
  simpa using hj

set_option maxHeartbeats 8000000 in
theorem l91Tree_any (B g : Nat) (w w0 : World) (lim : Int) (h : Drawn w w0 B g lim) (hl : lim ≤ 1000000000) :
    Calls Try.prog 44 #[.pointer (some ⟨g, 0, none⟩)] w0 (DrewT w w0 B g (lim + 60)) := by
  have hS0 := DT.start h
  clear h
  go_enter Try.func44, Try.ntmps44
  go_wp2_with fail
  go_loopg [3, 5] 8 (fun gh v i W => ∃ k : Nat, k ≤ 8 ∧ gh = 8 - k ∧ i = .int .i64 k ∧ ∃ zs a c L, v = .slice a L c ∧ L ≤ k ∧ DT w w0 B g (lim + 6 * k) W a c L zs)
  case atStart => exact ⟨0, by omega, rfl, rfl, [], _, _, 0, rfl, by omega, hS0.le' (by omega)⟩
  case round =>
    clear hS0
    obtain ⟨k, hk, rfl, rfl, zs, a, c, L, rfl, hLk, hS⟩ := hrel
    by_cases hlt : k < 8
    · obtain ⟨d, hd, hd16, hdl⟩ := hS.path hlt
      have hk0 : (0 : Int) ≤ (k : Int) := by omega
      have hk1 : (k : Int) < 8 := by omega
      have hng : some (⟨w0.heap.size + 1, k, none⟩ : Addr).block ≠ some g := by intro h; injection h with h; have := hS.lt; simp only at h; omega
      go_upto_region 6 with fail
      go_cut [6] (fun v6 wx => ∃ Bx dd ad, v6 = .pointer (some ⟨Bx, 0, none⟩) ∧ DB w wr B g (lim + 6 * k + 1) wx Bx ⟨d, dd, ad, 0, []⟩)
      case first =>
        refine wp_region_noPanic ?_
        refine wp_region_held_drew (S := fun w' => w'.cell? ⟨w0.heap.size + 1, k, none⟩ = some (.string d)) (by kernel_rfl) ?_ (fun hHeld => ?_)
        · exact hd
        have hG : GX w wr B g (lim + 6 * k) wr.drew none none := GX.startD hS
        generalize wr.drew = wd at hG hHeld ⊢
        refine held_yes (i := 0) 17 (v := ?_) rfl rfl (by kernel_rfl) (by kernel_rfl) (by kernel_rfl) (fun _ _ _ _ _ h => h) (by rfl) (by assumption) ?_ ?_
        rotate_left 1
        · intro w hSw
          (try dsimp only at hSw)
          first | (go_simp; done) | (go_simp; with_reducible rfl)
        try simp only [Act.put, List.setIfInBounds_toArray, List.set_cons_zero, List.set_cons_succ]
        refine held_yes (i := 1) 18 (v := ?_) rfl rfl (by kernel_rfl) (by kernel_rfl) (by kernel_rfl) (fun _ _ _ _ _ h => h) (by rfl) (by assumption) ?_ ?_
        rotate_left 1
        · intro w hSw
          (try dsimp only at hSw)
          first | (go_simp; done) | (go_simp; with_reducible rfl)
        try simp only [Act.put, List.setIfInBounds_toArray, List.set_cons_zero, List.set_cons_succ]
        refine held_yes (i := 2) 19 (v := ?_) rfl rfl (by kernel_rfl) (by kernel_rfl) (by kernel_rfl) (fun _ _ _ _ _ h => h) (by rfl) (by assumption) ?_ ?_
        rotate_left 1
        · intro w hSw
          (try dsimp only at hSw)
          first | (go_simp; done) | (go_simp; with_reducible rfl)
        try simp only [Act.put, List.setIfInBounds_toArray, List.set_cons_zero, List.set_cons_succ]
        refine held_yes (i := 3) 20 (v := ?_) rfl rfl (by kernel_rfl) (by kernel_rfl) (by kernel_rfl) (fun _ _ _ _ _ h => h) (by rfl) (by assumption) ?_ ?_
        rotate_left 1
        · intro w hSw
          (try dsimp only at hSw)
          first | (go_simp; done) | (go_simp; with_reducible rfl)
        try simp only [Act.put, List.setIfInBounds_toArray, List.set_cons_zero, List.set_cons_succ]
        refine held_yes (i := 4) 21 (v := ?_) rfl rfl (by kernel_rfl) (by kernel_rfl) (by kernel_rfl) (fun _ _ _ _ _ h => h) (by rfl) (by assumption) ?_ ?_
        rotate_left 1
        · intro w hSw
          (try dsimp only at hSw)
          first | (go_simp; done) | (go_simp; with_reducible rfl)
        try simp only [Act.put, List.setIfInBounds_toArray, List.set_cons_zero, List.set_cons_succ]
        refine wpAnyH_ready (rs := [5, 7, 9]) (by kernel_rfl) (by simp) ?_
        refine (AllReadyH.cons rfl (fun K hK => ?_) (AllReadyH.cons rfl (fun K hK => ?_) (AllReadyH.cons rfl (fun K hK => ?_) AllReadyH.nil)))
        · go_simp
          with_reducible refine (pickD _ hG.dr (by omega)).mono ?_
          rintro e W1 ⟨y, rfl, y0, y1, hD, hg⟩
          have hG := hG.pick hD hg
          clear y1 hD
          go_wp2_with fail
          refine hK.out _ _ ?_ (fun hHeld => ?_)
          · exact hg.cell hHeld hng
          clear hK K
          try simp only [Act.put, List.setIfInBounds_toArray, List.set_cons_zero, List.set_cons_succ]
          clear hg
          refine held_yes (i := 6) 23 (v := ?_) rfl rfl (by kernel_rfl) (by kernel_rfl) (by kernel_rfl) (fun _ _ _ _ _ h => h) (by rfl) (by assumption) ?_ ?_
          rotate_left 1
          · intro w hSw
            (try dsimp only at hSw)
            first | (go_simp; done) | (go_simp; with_reducible rfl)
          try simp only [Act.put, List.setIfInBounds_toArray, List.set_cons_zero, List.set_cons_succ]
          refine wpAnyH_ready (rs := [7, 9]) (by kernel_rfl) (by simp) ?_
          refine (AllReadyH.cons rfl (fun K hK => ?_) (AllReadyH.cons rfl (fun K hK => ?_) AllReadyH.nil))
          · go_simp
            refine hK.out _ _ ?_ (fun hHeld => ?_)
            · exact keepS hHeld _
            clear hK K
            try simp only [Act.put, List.setIfInBounds_toArray, List.set_cons_zero, List.set_cons_succ]
            have hG := hG.slice
            generalize W1.alloc (.cells #[] 3) = W2 at hG hHeld ⊢
            refine held_yes (i := 8) 25 (v := ?_) rfl rfl (by kernel_rfl) (by kernel_rfl) (by kernel_rfl) (fun _ _ _ _ _ h => h) (by rfl) (by assumption) ?_ ?_
            rotate_left 1
            · intro w hSw
              (try dsimp only at hSw)
              first | (go_simp; done) | (go_simp; with_reducible rfl)
            try simp only [Act.put, List.setIfInBounds_toArray, List.set_cons_zero, List.set_cons_succ]
            refine wpAnyH_ready (rs := [9]) (by kernel_rfl) (by simp) ?_
            refine (AllReadyH.cons rfl (fun K hK => ?_) AllReadyH.nil)
            go_simp
            refine hK.out _ _ ?_ (fun hHeld => ?_)
            · exact keepS hHeld _
            clear hK K
            try simp only [Act.put, List.setIfInBounds_toArray, List.set_cons_zero, List.set_cons_succ]
            have hG := hG.box
            generalize W2.alloc (.cells #[.string ⟨#[]⟩, .bool false, .slice none 0 0] 62) = W3 at hG hHeld ⊢
            refine wpAnyH_ready (rs := [10]) (by kernel_rfl) (by simp) ?_
            refine (AllReadyH.cons rfl (fun K hK => ?_) AllReadyH.nil)
            obtain ⟨⟨z0, z1, z2⟩, f0, f1, f2⟩ := hG.cells
            have hne := Nat.ne_of_gt (Nat.lt_of_lt_of_le hdl (hG.row _ rfl).2)
            have hF := Lib.hid (hG.fin d (decide (0 < y)))
            have hN := Lib.hid hne
            clear hne hG
            go_simp
            refine hK.out _ _ ?_ (fun hHeld => ?_)
            · exact keepC (keepC (keepC hHeld _ _ hN.out _) _ _ hN.out _) _ _ hN.out _
            clear hK K
            try simp only [Act.put, List.setIfInBounds_toArray, List.set_cons_zero, List.set_cons_succ]
            refine wpAnyH_done (by kernel_rfl) ?_ _
            refine NoPanic.normal ?_
            go_wp2_with fail
            go_meet
            exact ⟨_, _, _, rfl, hF.out⟩
          · go_simp
            refine hK.out _ _ ?_ (fun hHeld => ?_)
            · exact keepS hHeld _
            clear hK K
            try simp only [Act.put, List.setIfInBounds_toArray, List.set_cons_zero, List.set_cons_succ]
            have hG := hG.box
            generalize W1.alloc (.cells #[.string ⟨#[]⟩, .bool false, .slice none 0 0] 62) = W2 at hG hHeld ⊢
            refine wpAnyH_ready (rs := [7]) (by kernel_rfl) (by simp) ?_
            refine (AllReadyH.cons rfl (fun K hK => ?_) AllReadyH.nil)
            go_simp
            refine hK.out _ _ ?_ (fun hHeld => ?_)
            · exact keepS hHeld _
            clear hK K
            try simp only [Act.put, List.setIfInBounds_toArray, List.set_cons_zero, List.set_cons_succ]
            have hG := hG.slice
            generalize W2.alloc (.cells #[] 3) = W3 at hG hHeld ⊢
            refine held_yes (i := 8) 25 (v := ?_) rfl rfl (by kernel_rfl) (by kernel_rfl) (by kernel_rfl) (fun _ _ _ _ _ h => h) (by rfl) (by assumption) ?_ ?_
            rotate_left 1
            · intro w hSw
              (try dsimp only at hSw)
              first | (go_simp; done) | (go_simp; with_reducible rfl)
            try simp only [Act.put, List.setIfInBounds_toArray, List.set_cons_zero, List.set_cons_succ]
            refine wpAnyH_ready (rs := [10]) (by kernel_rfl) (by simp) ?_
            refine (AllReadyH.cons rfl (fun K hK => ?_) AllReadyH.nil)
            obtain ⟨⟨z0, z1, z2⟩, f0, f1, f2⟩ := hG.cells
            have hne := Nat.ne_of_gt (Nat.lt_of_lt_of_le hdl (hG.row _ rfl).2)
            have hF := Lib.hid (hG.fin d (decide (0 < y)))
            have hN := Lib.hid hne
            clear hne hG
            go_simp
            refine hK.out _ _ ?_ (fun hHeld => ?_)
            · exact keepC (keepC (keepC hHeld _ _ hN.out _) _ _ hN.out _) _ _ hN.out _
            clear hK K
            try simp only [Act.put, List.setIfInBounds_toArray, List.set_cons_zero, List.set_cons_succ]
            refine wpAnyH_done (by kernel_rfl) ?_ _
            refine NoPanic.normal ?_
            go_wp2_with fail
            go_meet
            exact ⟨_, _, _, rfl, hF.out⟩
        · go_simp
          refine hK.out _ _ ?_ (fun hHeld => ?_)
          · exact keepS hHeld _
          clear hK K
          try simp only [Act.put, List.setIfInBounds_toArray, List.set_cons_zero, List.set_cons_succ]
          have hG := hG.slice
          generalize wd.alloc (.cells #[] 3) = W1 at hG hHeld ⊢
          refine wpAnyH_ready (rs := [5, 9]) (by kernel_rfl) (by simp) ?_
          refine (AllReadyH.cons rfl (fun K hK => ?_) (AllReadyH.cons rfl (fun K hK => ?_) AllReadyH.nil))
          · go_simp
            with_reducible refine (pickD _ hG.dr (by omega)).mono ?_
            rintro e W2 ⟨y, rfl, y0, y1, hD, hg⟩
            have hG := hG.pick hD hg
            clear y1 hD
            go_wp2_with fail
            refine hK.out _ _ ?_ (fun hHeld => ?_)
            · exact hg.cell hHeld hng
            clear hK K
            try simp only [Act.put, List.setIfInBounds_toArray, List.set_cons_zero, List.set_cons_succ]
            clear hg
            refine held_yes (i := 6) 23 (v := ?_) rfl rfl (by kernel_rfl) (by kernel_rfl) (by kernel_rfl) (fun _ _ _ _ _ h => h) (by rfl) (by assumption) ?_ ?_
            rotate_left 1
            · intro w hSw
              (try dsimp only at hSw)
              first | (go_simp; done) | (go_simp; with_reducible rfl)
            try simp only [Act.put, List.setIfInBounds_toArray, List.set_cons_zero, List.set_cons_succ]
            refine held_yes (i := 8) 25 (v := ?_) rfl rfl (by kernel_rfl) (by kernel_rfl) (by kernel_rfl) (fun _ _ _ _ _ h => h) (by rfl) (by assumption) ?_ ?_
            rotate_left 1
            · intro w hSw
              (try dsimp only at hSw)
              first | (go_simp; done) | (go_simp; with_reducible rfl)
            try simp only [Act.put, List.setIfInBounds_toArray, List.set_cons_zero, List.set_cons_succ]
            refine wpAnyH_ready (rs := [9]) (by kernel_rfl) (by simp) ?_
            refine (AllReadyH.cons rfl (fun K hK => ?_) AllReadyH.nil)
            go_simp
            refine hK.out _ _ ?_ (fun hHeld => ?_)
            · exact keepS hHeld _
            clear hK K
            try simp only [Act.put, List.setIfInBounds_toArray, List.set_cons_zero, List.set_cons_succ]
            have hG := hG.box
            generalize W2.alloc (.cells #[.string ⟨#[]⟩, .bool false, .slice none 0 0] 62) = W3 at hG hHeld ⊢
            refine wpAnyH_ready (rs := [10]) (by kernel_rfl) (by simp) ?_
            refine (AllReadyH.cons rfl (fun K hK => ?_) AllReadyH.nil)
            obtain ⟨⟨z0, z1, z2⟩, f0, f1, f2⟩ := hG.cells
            have hne := Nat.ne_of_gt (Nat.lt_of_lt_of_le hdl (hG.row _ rfl).2)
            have hF := Lib.hid (hG.fin d (decide (0 < y)))
            have hN := Lib.hid hne
            clear hne hG
            go_simp
            refine hK.out _ _ ?_ (fun hHeld => ?_)
            · exact keepC (keepC (keepC hHeld _ _ hN.out _) _ _ hN.out _) _ _ hN.out _
            clear hK K
            try simp only [Act.put, List.setIfInBounds_toArray, List.set_cons_zero, List.set_cons_succ]
            refine wpAnyH_done (by kernel_rfl) ?_ _
            refine NoPanic.normal ?_
            go_wp2_with fail
            go_meet
            exact ⟨_, _, _, rfl, hF.out⟩
          · go_simp
            refine hK.out _ _ ?_ (fun hHeld => ?_)
            · exact keepS hHeld _
            clear hK K
            try simp only [Act.put, List.setIfInBounds_toArray, List.set_cons_zero, List.set_cons_succ]
            have hG := hG.box
            generalize W1.alloc (.cells #[.string ⟨#[]⟩, .bool false, .slice none 0 0] 62) = W2 at hG hHeld ⊢
            refine wpAnyH_ready (rs := [5]) (by kernel_rfl) (by simp) ?_
            refine (AllReadyH.cons rfl (fun K hK => ?_) AllReadyH.nil)
            go_simp
            with_reducible refine (pickD _ hG.dr (by omega)).mono ?_
            rintro e W3 ⟨y, rfl, y0, y1, hD, hg⟩
            have hG := hG.pick hD hg
            clear y1 hD
            go_wp2_with fail
            refine hK.out _ _ ?_ (fun hHeld => ?_)
            · exact hg.cell hHeld hng
            clear hK K
            try simp only [Act.put, List.setIfInBounds_toArray, List.set_cons_zero, List.set_cons_succ]
            clear hg
            refine held_yes (i := 6) 23 (v := ?_) rfl rfl (by kernel_rfl) (by kernel_rfl) (by kernel_rfl) (fun _ _ _ _ _ h => h) (by rfl) (by assumption) ?_ ?_
            rotate_left 1
            · intro w hSw
              (try dsimp only at hSw)
              first | (go_simp; done) | (go_simp; with_reducible rfl)
            try simp only [Act.put, List.setIfInBounds_toArray, List.set_cons_zero, List.set_cons_succ]
            refine held_yes (i := 8) 25 (v := ?_) rfl rfl (by kernel_rfl) (by kernel_rfl) (by kernel_rfl) (fun _ _ _ _ _ h => h) (by rfl) (by assumption) ?_ ?_
            rotate_left 1
            · intro w hSw
              (try dsimp only at hSw)
              first | (go_simp; done) | (go_simp; with_reducible rfl)
            try simp only [Act.put, List.setIfInBounds_toArray, List.set_cons_zero, List.set_cons_succ]
            refine wpAnyH_ready (rs := [10]) (by kernel_rfl) (by simp) ?_
            refine (AllReadyH.cons rfl (fun K hK => ?_) AllReadyH.nil)
            obtain ⟨⟨z0, z1, z2⟩, f0, f1, f2⟩ := hG.cells
            have hne := Nat.ne_of_gt (Nat.lt_of_lt_of_le hdl (hG.row _ rfl).2)
            have hF := Lib.hid (hG.fin d (decide (0 < y)))
            have hN := Lib.hid hne
            clear hne hG
            go_simp
            refine hK.out _ _ ?_ (fun hHeld => ?_)
            · exact keepC (keepC (keepC hHeld _ _ hN.out _) _ _ hN.out _) _ _ hN.out _
            clear hK K
            try simp only [Act.put, List.setIfInBounds_toArray, List.set_cons_zero, List.set_cons_succ]
            refine wpAnyH_done (by kernel_rfl) ?_ _
            refine NoPanic.normal ?_
            go_wp2_with fail
            go_meet
            exact ⟨_, _, _, rfl, hF.out⟩
        · go_simp
          refine hK.out _ _ ?_ (fun hHeld => ?_)
          · exact keepS hHeld _
          clear hK K
          try simp only [Act.put, List.setIfInBounds_toArray, List.set_cons_zero, List.set_cons_succ]
          have hG := hG.box
          generalize wd.alloc (.cells #[.string ⟨#[]⟩, .bool false, .slice none 0 0] 62) = W1 at hG hHeld ⊢
          refine wpAnyH_ready (rs := [5, 7]) (by kernel_rfl) (by simp) ?_
          refine (AllReadyH.cons rfl (fun K hK => ?_) (AllReadyH.cons rfl (fun K hK => ?_) AllReadyH.nil))
          · go_simp
            with_reducible refine (pickD _ hG.dr (by omega)).mono ?_
            rintro e W2 ⟨y, rfl, y0, y1, hD, hg⟩
            have hG := hG.pick hD hg
            clear y1 hD
            go_wp2_with fail
            refine hK.out _ _ ?_ (fun hHeld => ?_)
            · exact hg.cell hHeld hng
            clear hK K
            try simp only [Act.put, List.setIfInBounds_toArray, List.set_cons_zero, List.set_cons_succ]
            clear hg
            refine held_yes (i := 6) 23 (v := ?_) rfl rfl (by kernel_rfl) (by kernel_rfl) (by kernel_rfl) (fun _ _ _ _ _ h => h) (by rfl) (by assumption) ?_ ?_
            rotate_left 1
            · intro w hSw
              (try dsimp only at hSw)
              first | (go_simp; done) | (go_simp; with_reducible rfl)
            try simp only [Act.put, List.setIfInBounds_toArray, List.set_cons_zero, List.set_cons_succ]
            refine wpAnyH_ready (rs := [7]) (by kernel_rfl) (by simp) ?_
            refine (AllReadyH.cons rfl (fun K hK => ?_) AllReadyH.nil)
            go_simp
            refine hK.out _ _ ?_ (fun hHeld => ?_)
            · exact keepS hHeld _
            clear hK K
            try simp only [Act.put, List.setIfInBounds_toArray, List.set_cons_zero, List.set_cons_succ]
            have hG := hG.slice
            generalize W2.alloc (.cells #[] 3) = W3 at hG hHeld ⊢
            refine held_yes (i := 8) 25 (v := ?_) rfl rfl (by kernel_rfl) (by kernel_rfl) (by kernel_rfl) (fun _ _ _ _ _ h => h) (by rfl) (by assumption) ?_ ?_
            rotate_left 1
            · intro w hSw
              (try dsimp only at hSw)
              first | (go_simp; done) | (go_simp; with_reducible rfl)
            try simp only [Act.put, List.setIfInBounds_toArray, List.set_cons_zero, List.set_cons_succ]
            refine wpAnyH_ready (rs := [10]) (by kernel_rfl) (by simp) ?_
            refine (AllReadyH.cons rfl (fun K hK => ?_) AllReadyH.nil)
            obtain ⟨⟨z0, z1, z2⟩, f0, f1, f2⟩ := hG.cells
            have hne := Nat.ne_of_gt (Nat.lt_of_lt_of_le hdl (hG.row _ rfl).2)
            have hF := Lib.hid (hG.fin d (decide (0 < y)))
            have hN := Lib.hid hne
            clear hne hG
            go_simp
            refine hK.out _ _ ?_ (fun hHeld => ?_)
            · exact keepC (keepC (keepC hHeld _ _ hN.out _) _ _ hN.out _) _ _ hN.out _
            clear hK K
            try simp only [Act.put, List.setIfInBounds_toArray, List.set_cons_zero, List.set_cons_succ]
            refine wpAnyH_done (by kernel_rfl) ?_ _
            refine NoPanic.normal ?_
            go_wp2_with fail
            go_meet
            exact ⟨_, _, _, rfl, hF.out⟩
          · go_simp
            refine hK.out _ _ ?_ (fun hHeld => ?_)
            · exact keepS hHeld _
            clear hK K
            try simp only [Act.put, List.setIfInBounds_toArray, List.set_cons_zero, List.set_cons_succ]
            have hG := hG.slice
            generalize W1.alloc (.cells #[] 3) = W2 at hG hHeld ⊢
            refine wpAnyH_ready (rs := [5]) (by kernel_rfl) (by simp) ?_
            refine (AllReadyH.cons rfl (fun K hK => ?_) AllReadyH.nil)
            go_simp
            with_reducible refine (pickD _ hG.dr (by omega)).mono ?_
            rintro e W3 ⟨y, rfl, y0, y1, hD, hg⟩
            have hG := hG.pick hD hg
            clear y1 hD
            go_wp2_with fail
            refine hK.out _ _ ?_ (fun hHeld => ?_)
            · exact hg.cell hHeld hng
            clear hK K
            try simp only [Act.put, List.setIfInBounds_toArray, List.set_cons_zero, List.set_cons_succ]
            clear hg
            refine held_yes (i := 6) 23 (v := ?_) rfl rfl (by kernel_rfl) (by kernel_rfl) (by kernel_rfl) (fun _ _ _ _ _ h => h) (by rfl) (by assumption) ?_ ?_
            rotate_left 1
            · intro w hSw
              (try dsimp only at hSw)
              first | (go_simp; done) | (go_simp; with_reducible rfl)
            try simp only [Act.put, List.setIfInBounds_toArray, List.set_cons_zero, List.set_cons_succ]
            refine held_yes (i := 8) 25 (v := ?_) rfl rfl (by kernel_rfl) (by kernel_rfl) (by kernel_rfl) (fun _ _ _ _ _ h => h) (by rfl) (by assumption) ?_ ?_
            rotate_left 1
            · intro w hSw
              (try dsimp only at hSw)
              first | (go_simp; done) | (go_simp; with_reducible rfl)
            try simp only [Act.put, List.setIfInBounds_toArray, List.set_cons_zero, List.set_cons_succ]
            refine wpAnyH_ready (rs := [10]) (by kernel_rfl) (by simp) ?_
            refine (AllReadyH.cons rfl (fun K hK => ?_) AllReadyH.nil)
            obtain ⟨⟨z0, z1, z2⟩, f0, f1, f2⟩ := hG.cells
            have hne := Nat.ne_of_gt (Nat.lt_of_lt_of_le hdl (hG.row _ rfl).2)
            have hF := Lib.hid (hG.fin d (decide (0 < y)))
            have hN := Lib.hid hne
            clear hne hG
            go_simp
            refine hK.out _ _ ?_ (fun hHeld => ?_)
            · exact keepC (keepC (keepC hHeld _ _ hN.out _) _ _ hN.out _) _ _ hN.out _
            clear hK K
            try simp only [Act.put, List.setIfInBounds_toArray, List.set_cons_zero, List.set_cons_succ]
            refine wpAnyH_done (by kernel_rfl) ?_ _
            refine NoPanic.normal ?_
            go_wp2_with fail
            go_meet
            exact ⟨_, _, _, rfl, hF.out⟩
      case rest =>
        obtain ⟨Bx, dd, ad, rfl, hB⟩ := hcut
        clear hd hng hdl
        cases dd with
        | true =>
          obtain ⟨c0, c1, c2, f2⟩ := hB.cells
          simp only at c0 c1 c2
          go_wp2_with fail
          refine (pickD _ hB.dr (by omega)).mono ?_
          rintro e w5 ⟨t, rfl, t0, t1, hD, hg⟩
          have hB5 := hB.pick hD hg
          have hS5 := hS.pick hB5.dr hB5.g0
          clear t1 hD hg hB c0 c1 c2 f2
          by_cases ht : 0 < t
          · obtain ⟨c0, c1, c2, _⟩ := hB5.cells
            simp only at c0 c1 c2
            go_wp2_with fail
            with_reducible refine (l5Home_any a L c zs d w5 (hS5.own.rd hS5.len) (by omega) (by omega)).mono ?_
            rintro e w6 ⟨v, rfl, hw⟩
            subst hw
            cases v with
            | true =>
              go_wp2_with (at_builtin; refine wp_appR eltT rfl _ _ rfl hS5.len rfl (hS5.own.row.alloc _) ⟨w6.heap.size, 0, none⟩ 1 1 [⟨d, true, ad, 0, []⟩] rfl rfl (newT _ _ rfl ⟨d, true, ad, 0, []⟩) (by omega) (by have := hS5.grow.size; simp; omega) ?_; intro a7 c7 w7 hR7 hG7)
              have hS7 := hS5.push (hB5.own.mono hS.grow.size) ⟨by simp only; omega, by simp only; have := (show ([] : List Int).length ≤ 2 by first | assumption | simp); omega⟩ hG7 hR7
              clear hS5 hB5 hR7 hG7 c0 c1 c2
              go_roundg (8 - (k + 1))
              case measure => omega
              case rel => exact ⟨k + 1, by omega, rfl, by go_num, _, a7, c7, L + 1, rfl, by omega, hS7.le' (by omega)⟩
            | false =>
              clear hB5 c0 c1 c2
              go_wp2
              go_roundg (8 - (k + 1))
              case measure => omega
              case rel => exact ⟨k + 1, by omega, rfl, by go_num, zs, a, c, L, rfl, by omega, hS5.le' (by omega)⟩
          · clear hB5
            go_wp2
            go_roundg (8 - (k + 1))
            case measure => omega
            case rel => exact ⟨k + 1, by omega, rfl, by go_num, zs, a, c, L, rfl, by omega, hS5.le' (by omega)⟩
        | false =>
          obtain ⟨c0, c1, c2, f2⟩ := hB.cells
          simp only at c0 c1 c2
          go_wp2_with fail
          refine (pickD _ hB.dr (by omega)).mono ?_
          rintro e w3 ⟨n, rfl, n0, n1, hD, hg⟩
          have n2 := n1 (by omega)
          have hB3 := hB.pick hD hg
          clear hB hD hg n1 c0 c1 c2 f2
          go_wp2_with fail
          go_loopw [8] (fun v8 W => ∃ j : Nat, v8 = .int .i64 j ∧ (j : Int) ≤ n ∧ ∃ ad cp bz, Hid (bz.length = j) ∧ DB w wr B g (lim + 6 * k + 2 + j) W Bx ⟨d, false, ad, cp, bz⟩)
            (fun v8 _ => (n - intOf v8).toNat)
          case atStart => exact ⟨0, rfl, by omega, ad, 0, [], Lib.hid rfl, hB3.le' (by omega)⟩
          case round =>
            clear hB3
            obtain ⟨j, rfl, hj, ad, cp, bz, HM, hBi⟩ := hrel
            by_cases hjn : (j : Int) < n
            · obtain ⟨c0, c1, c2, f2⟩ := hBi.cells
              simp only at c0 c1 c2
              go_upto_region 12 with fail
              clear c0 c1 c2 f2
              refine wp_region_noPanic ?_
              refine wp_region_held_drew (S := fun w' => True) (by kernel_rfl) trivial (fun hHeld => ?_)
              have hBd := hBi.drew
              have c3 := hBd.cells.2.2.1
              simp only at c3
              clear hBi
              refine held_yes (i := 0) 36 (v := ?_) rfl rfl (by kernel_rfl) (by kernel_rfl) (by kernel_rfl) (fun _ _ _ _ _ h => h) (by rfl) (by assumption) ?_ ?_
              rotate_left 1
              · intro w hSw
                (try dsimp only at hSw)
                first | (go_simp; done) | (go_simp; with_reducible rfl)
              try simp only [Act.put, List.setIfInBounds_toArray, List.set_cons_zero, List.set_cons_succ]
              refine held_yes (i := 2) 38 (v := ?_) rfl rfl (by kernel_rfl) (by kernel_rfl) (by kernel_rfl) (fun _ _ _ _ _ h => h) (by rfl) (by assumption) ?_ ?_
              rotate_left 1
              · intro w hSw
                (try dsimp only at hSw)
                first | (go_simp; done) | (go_simp; with_reducible rfl)
              try simp only [Act.put, List.setIfInBounds_toArray, List.set_cons_zero, List.set_cons_succ]
              refine wpAnyH_ready (rs := [1, 3]) (by kernel_rfl) (by simp) ?_
              refine (AllReadyH.cons rfl (fun K hK => ?_) (AllReadyH.cons rfl (fun K hK => ?_) AllReadyH.nil))
              · go_simp
                refine hK.out _ _ ?_ (fun hHeld => ?_)
                · exact trivial
                clear hK K
                try simp only [Act.put, List.setIfInBounds_toArray, List.set_cons_zero, List.set_cons_succ]
                refine wpAnyH_ready (rs := [3]) (by kernel_rfl) (by simp) ?_
                refine (AllReadyH.cons rfl (fun K hK => ?_) AllReadyH.nil)
                go_simp
                with_reducible refine (pickD _ hBd.dr (by omega)).mono ?_
                rintro e w4 ⟨y, rfl, y0, y1, hD, hg⟩
                have y2 := y1 (by omega)
                have s1 : IntKind.i64.wrap (1 + y) = 1 + y := IntWalk.i64_in _ (by omega)
                have hB4 := hBd.pick hD hg
                have c4 := hB4.cells.2.2.1
                have c5 := (hB4.alloc (.cells #[.int .i64 (1 + y)] 3)).cells.2.2.1
                simp only at c4 c5
                clear y1 hD hg
                go_wp2_with fail
                refine hK.out _ _ ?_ (fun hHeld => ?_)
                · exact trivial
                clear hK K
                try simp only [Act.put, List.setIfInBounds_toArray, List.set_cons_zero, List.set_cons_succ]
                refine held_yes (i := 4) 40 (v := ?_) rfl rfl (by kernel_rfl) (by kernel_rfl) (by kernel_rfl) (fun _ _ _ _ _ h => h) (by rfl) (by assumption) ?_ ?_
                rotate_left 1
                · intro w hSw
                  (try dsimp only at hSw)
                  first | (go_simp; done) | (go_simp; with_reducible rfl)
                try simp only [Act.put, List.setIfInBounds_toArray, List.set_cons_zero, List.set_cons_succ]
                refine wpAnyH_ready (rs := [5]) (by kernel_rfl) (by simp) ?_
                refine (AllReadyH.cons rfl (fun K hK => ?_) AllReadyH.nil)
                go_simp
                refine hK.out _ _ ?_ (fun hHeld => ?_)
                · exact trivial
                clear hK K
                try simp only [Act.put, List.setIfInBounds_toArray, List.set_cons_zero, List.set_cons_succ]
                refine wpAnyH_ready (rs := [6]) (by kernel_rfl) (by simp) ?_
                refine (AllReadyH.cons rfl (fun K hK => ?_) AllReadyH.nil)
                refine step_app rfl _ _ rfl rfl (hB4.own.alloc (.cells #[.int .i64 (1 + y)] 3)) ⟨w4.heap.size, 0, none⟩ 1 1 [1 + y] rfl rfl (newIT w4 (1 + y)) (by intro z hz; simp only [List.mem_singleton] at hz; omega) (by have := HM.out; omega) (by have := hB4.g0.size; simp; omega) ?_
                intro a5 c5x w5 hO5 hG5
                have hF := Lib.hid (hB4.app hG5 hO5 (n := bz.length + 1) (by simp))
                obtain ⟨_, _, hrow⟩ := hB4.grown hG5
                have z2 := cell_of_row _ _ 2 _ _ (0, 0) hrow
                have f2 := frozen_of_row _ _ 2 _ _ hrow
                simp only at z2
                clear hrow hG5 hO5
                refine hK.out _ _ ?_ (fun hHeld => ?_)
                · exact trivial
                clear hK K
                try simp only [Act.put, List.setIfInBounds_toArray, List.set_cons_zero, List.set_cons_succ]
                refine held_yes (i := 7) 43 (v := ?_) rfl rfl (by kernel_rfl) (by kernel_rfl) (by kernel_rfl) (fun _ _ _ _ _ h => h) (by rfl) (by assumption) ?_ ?_
                rotate_left 1
                · intro w hSw
                  (try dsimp only at hSw)
                  first | (go_simp; done) | (go_simp; with_reducible rfl)
                try simp only [Act.put, List.setIfInBounds_toArray, List.set_cons_zero, List.set_cons_succ]
                refine wpAnyH_ready (rs := [8]) (by kernel_rfl) (by simp) ?_
                refine (AllReadyH.cons rfl (fun K hK => ?_) AllReadyH.nil)
                go_simp
                refine hK.out _ _ ?_ (fun hHeld => ?_)
                · exact trivial
                clear hK K
                try simp only [Act.put, List.setIfInBounds_toArray, List.set_cons_zero, List.set_cons_succ]
                refine wpAnyH_done (by kernel_rfl) ?_ _
                refine NoPanic.normal ?_
                go_wp2
                go_roundw
                case rel => exact ⟨j + 1, by go_num, by omega, _, _, _, Lib.hid (by rw [List.length_append, HM.out]; rfl), hF.out.le' (by omega)⟩
                case measure => simp [intOf]; omega
              · go_simp
                with_reducible refine (pickD _ hBd.dr (by omega)).mono ?_
                rintro e w4 ⟨y, rfl, y0, y1, hD, hg⟩
                have y2 := y1 (by omega)
                have s1 : IntKind.i64.wrap (1 + y) = 1 + y := IntWalk.i64_in _ (by omega)
                have hB4 := hBd.pick hD hg
                have c4 := hB4.cells.2.2.1
                have c5 := (hB4.alloc (.cells #[.int .i64 (1 + y)] 3)).cells.2.2.1
                simp only at c4 c5
                clear y1 hD hg
                go_wp2_with fail
                refine hK.out _ _ ?_ (fun hHeld => ?_)
                · exact trivial
                clear hK K
                try simp only [Act.put, List.setIfInBounds_toArray, List.set_cons_zero, List.set_cons_succ]
                refine held_yes (i := 4) 40 (v := ?_) rfl rfl (by kernel_rfl) (by kernel_rfl) (by kernel_rfl) (fun _ _ _ _ _ h => h) (by rfl) (by assumption) ?_ ?_
                rotate_left 1
                · intro w hSw
                  (try dsimp only at hSw)
                  first | (go_simp; done) | (go_simp; with_reducible rfl)
                try simp only [Act.put, List.setIfInBounds_toArray, List.set_cons_zero, List.set_cons_succ]
                refine wpAnyH_ready (rs := [1, 5]) (by kernel_rfl) (by simp) ?_
                refine (AllReadyH.cons rfl (fun K hK => ?_) (AllReadyH.cons rfl (fun K hK => ?_) AllReadyH.nil))
                · go_simp
                  refine hK.out _ _ ?_ (fun hHeld => ?_)
                  · exact trivial
                  clear hK K
                  try simp only [Act.put, List.setIfInBounds_toArray, List.set_cons_zero, List.set_cons_succ]
                  refine wpAnyH_ready (rs := [5]) (by kernel_rfl) (by simp) ?_
                  refine (AllReadyH.cons rfl (fun K hK => ?_) AllReadyH.nil)
                  go_simp
                  refine hK.out _ _ ?_ (fun hHeld => ?_)
                  · exact trivial
                  clear hK K
                  try simp only [Act.put, List.setIfInBounds_toArray, List.set_cons_zero, List.set_cons_succ]
                  refine wpAnyH_ready (rs := [6]) (by kernel_rfl) (by simp) ?_
                  refine (AllReadyH.cons rfl (fun K hK => ?_) AllReadyH.nil)
                  refine step_app rfl _ _ rfl rfl (hB4.own.alloc (.cells #[.int .i64 (1 + y)] 3)) ⟨w4.heap.size, 0, none⟩ 1 1 [1 + y] rfl rfl (newIT w4 (1 + y)) (by intro z hz; simp only [List.mem_singleton] at hz; omega) (by have := HM.out; omega) (by have := hB4.g0.size; simp; omega) ?_
                  intro a5 c5x w5 hO5 hG5
                  have hF := Lib.hid (hB4.app hG5 hO5 (n := bz.length + 1) (by simp))
                  obtain ⟨_, _, hrow⟩ := hB4.grown hG5
                  have z2 := cell_of_row _ _ 2 _ _ (0, 0) hrow
                  have f2 := frozen_of_row _ _ 2 _ _ hrow
                  simp only at z2
                  clear hrow hG5 hO5
                  refine hK.out _ _ ?_ (fun hHeld => ?_)
                  · exact trivial
                  clear hK K
                  try simp only [Act.put, List.setIfInBounds_toArray, List.set_cons_zero, List.set_cons_succ]
                  refine held_yes (i := 7) 43 (v := ?_) rfl rfl (by kernel_rfl) (by kernel_rfl) (by kernel_rfl) (fun _ _ _ _ _ h => h) (by rfl) (by assumption) ?_ ?_
                  rotate_left 1
                  · intro w hSw
                    (try dsimp only at hSw)
                    first | (go_simp; done) | (go_simp; with_reducible rfl)
                  try simp only [Act.put, List.setIfInBounds_toArray, List.set_cons_zero, List.set_cons_succ]
                  refine wpAnyH_ready (rs := [8]) (by kernel_rfl) (by simp) ?_
                  refine (AllReadyH.cons rfl (fun K hK => ?_) AllReadyH.nil)
                  go_simp
                  refine hK.out _ _ ?_ (fun hHeld => ?_)
                  · exact trivial
                  clear hK K
                  try simp only [Act.put, List.setIfInBounds_toArray, List.set_cons_zero, List.set_cons_succ]
                  refine wpAnyH_done (by kernel_rfl) ?_ _
                  refine NoPanic.normal ?_
                  go_wp2
                  go_roundw
                  case rel => exact ⟨j + 1, by go_num, by omega, _, _, _, Lib.hid (by rw [List.length_append, HM.out]; rfl), hF.out.le' (by omega)⟩
                  case measure => simp [intOf]; omega
                · go_simp
                  refine hK.out _ _ ?_ (fun hHeld => ?_)
                  · exact trivial
                  clear hK K
                  try simp only [Act.put, List.setIfInBounds_toArray, List.set_cons_zero, List.set_cons_succ]
                  refine wpAnyH_ready (rs := [1]) (by kernel_rfl) (by simp) ?_
                  refine (AllReadyH.cons rfl (fun K hK => ?_) AllReadyH.nil)
                  go_simp
                  refine hK.out _ _ ?_ (fun hHeld => ?_)
                  · exact trivial
                  clear hK K
                  try simp only [Act.put, List.setIfInBounds_toArray, List.set_cons_zero, List.set_cons_succ]
                  refine wpAnyH_ready (rs := [6]) (by kernel_rfl) (by simp) ?_
                  refine (AllReadyH.cons rfl (fun K hK => ?_) AllReadyH.nil)
                  refine step_app rfl _ _ rfl rfl (hB4.own.alloc (.cells #[.int .i64 (1 + y)] 3)) ⟨w4.heap.size, 0, none⟩ 1 1 [1 + y] rfl rfl (newIT w4 (1 + y)) (by intro z hz; simp only [List.mem_singleton] at hz; omega) (by have := HM.out; omega) (by have := hB4.g0.size; simp; omega) ?_
                  intro a5 c5x w5 hO5 hG5
                  have hF := Lib.hid (hB4.app hG5 hO5 (n := bz.length + 1) (by simp))
                  obtain ⟨_, _, hrow⟩ := hB4.grown hG5
                  have z2 := cell_of_row _ _ 2 _ _ (0, 0) hrow
                  have f2 := frozen_of_row _ _ 2 _ _ hrow
                  simp only at z2
                  clear hrow hG5 hO5
                  refine hK.out _ _ ?_ (fun hHeld => ?_)
                  · exact trivial
                  clear hK K
                  try simp only [Act.put, List.setIfInBounds_toArray, List.set_cons_zero, List.set_cons_succ]
                  refine held_yes (i := 7) 43 (v := ?_) rfl rfl (by kernel_rfl) (by kernel_rfl) (by kernel_rfl) (fun _ _ _ _ _ h => h) (by rfl) (by assumption) ?_ ?_
                  rotate_left 1
                  · intro w hSw
                    (try dsimp only at hSw)
                    first | (go_simp; done) | (go_simp; with_reducible rfl)
                  try simp only [Act.put, List.setIfInBounds_toArray, List.set_cons_zero, List.set_cons_succ]
                  refine wpAnyH_ready (rs := [8]) (by kernel_rfl) (by simp) ?_
                  refine (AllReadyH.cons rfl (fun K hK => ?_) AllReadyH.nil)
                  go_simp
                  refine hK.out _ _ ?_ (fun hHeld => ?_)
                  · exact trivial
                  clear hK K
                  try simp only [Act.put, List.setIfInBounds_toArray, List.set_cons_zero, List.set_cons_succ]
                  refine wpAnyH_done (by kernel_rfl) ?_ _
                  refine NoPanic.normal ?_
                  go_wp2
                  go_roundw
                  case rel => exact ⟨j + 1, by go_num, by omega, _, _, _, Lib.hid (by rw [List.length_append, HM.out]; rfl), hF.out.le' (by omega)⟩
                  case measure => simp [intOf]; omega
            · obtain ⟨c0, c1, c2, f2⟩ := hBi.cells
              simp only at c0 c1 c2
              have hB := hBi
              have hbz : bz.length ≤ 2 := by have := HM.out; omega
              clear hBi
              go_wp2_with fail
              refine (pickD _ hB.dr (by omega)).mono ?_
              rintro e w5 ⟨t, rfl, t0, t1, hD, hg⟩
              have hB5 := hB.pick hD hg
              have hS5 := hS.pick hB5.dr hB5.g0
              clear t1 hD hg hB c0 c1 c2 f2
              by_cases ht : 0 < t
              · obtain ⟨c0, c1, c2, _⟩ := hB5.cells
                simp only at c0 c1 c2
                go_wp2_with fail
                with_reducible refine (l5Home_any a L c zs d w5 (hS5.own.rd hS5.len) (by omega) (by omega)).mono ?_
                rintro e w6 ⟨v, rfl, hw⟩
                subst hw
                cases v with
                | true =>
                  go_wp2_with (at_builtin; refine wp_appR eltT rfl _ _ rfl hS5.len rfl (hS5.own.row.alloc _) ⟨w6.heap.size, 0, none⟩ 1 1 [⟨d, false, ad, cp, bz⟩] rfl rfl (newT _ _ rfl ⟨d, false, ad, cp, bz⟩) (by omega) (by have := hS5.grow.size; simp; omega) ?_; intro a7 c7 w7 hR7 hG7)
                  have hS7 := hS5.push (hB5.own.mono hS.grow.size) ⟨by simp only; omega, by simp only; have := (show (bz : List Int).length ≤ 2 by first | assumption | simp); omega⟩ hG7 hR7
                  clear hS5 hB5 hR7 hG7 c0 c1 c2
                  go_roundg (8 - (k + 1))
                  case measure => omega
                  case rel => exact ⟨k + 1, by omega, rfl, by go_num, _, a7, c7, L + 1, rfl, by omega, hS7.le' (by omega)⟩
                | false =>
                  clear hB5 c0 c1 c2
                  go_wp2
                  go_roundg (8 - (k + 1))
                  case measure => omega
                  case rel => exact ⟨k + 1, by omega, rfl, by go_num, zs, a, c, L, rfl, by omega, hS5.le' (by omega)⟩
              · clear hB5
                go_wp2
                go_roundg (8 - (k + 1))
                case measure => omega
                case rel => exact ⟨k + 1, by omega, rfl, by go_num, zs, a, c, L, rfl, by omega, hS5.le' (by omega)⟩
    · obtain rfl : k = 8 := by omega
      go_wp2_with fail
      refine (pickD _ hS.drawn (by omega)).mono ?_
      rintro e w5 ⟨t, rfl, t0, t1, hD, hg⟩
      have hS5 := hS.pick hD hg
      clear hS hD hg t1
      by_cases h0 : t = 0
      · subst h0
        go_wp2_with (at_builtin; refine wp_appR eltT rfl _ _ rfl hS5.len rfl (hS5.own.row.alloc _) ⟨w5.heap.size, 0, none⟩ 1 1 [⟨⟨#[122, 111, 111, 47, 97]⟩, false, none, 0, []⟩] rfl rfl (newT _ _ rfl ⟨⟨#[122, 111, 111, 47, 97]⟩, false, none, 0, []⟩) (by omega) (by have := hS5.grow.size; simp; omega) ?_; intro a7 c7 w7 hR7 hG7)
        have hS7 := Lib.hid (hS5.push (OwnI.nilT _ _) ⟨by decide, by decide⟩ hG7 hR7)
        clear hS5 hR7 hG7
        go_ret
        exact ⟨_, a7, c7, by rw [hS7.out.len]; rfl, by rw [hS7.out.len]; omega, hS7.out.own, hS7.out.drawn.le (by omega), hS7.out.grow⟩
      · have h0' : (t == 0) = false := by simp [h0]
        by_cases h1 : t = 1
        · subst h1
          have hI : OwnI (w5.alloc (.cells ([(1 : Int)].map (Value.int .i64)).toArray 3)) w0.heap.size (some ⟨w5.heap.size, 0, none⟩) 1 [1] := (OwnI.litT w5 [1] (by intro z hz; simp only [List.mem_singleton] at hz; omega) (by simp)).mono hS5.grow.size
          have hS6 := hS5.alloc (.cells ([(1 : Int)].map (Value.int .i64)).toArray 3)
          simp only [List.map_cons, List.map_nil] at hI hS6
          clear hS5
          go_wp2_with (at_builtin; refine wp_appR eltT rfl _ _ rfl hS6.len rfl (hS6.own.row.alloc _) ⟨w5.heap.size + 1, 0, none⟩ 1 1 [⟨⟨#[122]⟩, true, some ⟨w5.heap.size, 0, none⟩, 1, [1]⟩] rfl rfl (newT (w5.alloc (.cells #[.int .i64 1] 3)) (w5.heap.size + 1) (by simp) ⟨⟨#[122]⟩, true, some ⟨w5.heap.size, 0, none⟩, 1, [1]⟩) (by omega) (by have := hS6.grow.size; simp at this ⊢; omega) ?_; intro a7 c7 w7 hR7 hG7)
          have hS7 := Lib.hid (hS6.push hI ⟨by simp only; decide, by simp⟩ hG7 hR7)
          clear hS6 hR7 hG7
          go_ret
          exact ⟨_, a7, c7, by rw [hS7.out.len]; rfl, by rw [hS7.out.len]; omega, hS7.out.own, hS7.out.drawn.le (by omega), hS7.out.grow⟩
        · have h1' : (t == 1) = false := by simp [h1]
          go_wp2
          go_ret
          exact ⟨zs, a, c, by rw [hS5.len]; rfl, by rw [hS5.len]; omega, hS5.own, hS5.drawn.le (by omega), hS5.grow⟩

end Go.Proofs.Ytdjpaibjelfhnaa
