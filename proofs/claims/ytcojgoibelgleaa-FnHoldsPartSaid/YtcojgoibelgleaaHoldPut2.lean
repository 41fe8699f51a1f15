/- Contract of the reference's HoldPut. -/
import Derived.Test.YtcojgoibelgleaaHoldPut
import Derived.Test.YtcojgoibelgleaaEqO
import Derived.Test.YtcojgoibelgleaaRegion
import Derived.OwnWalk
namespace Go.Proofs.Ytcojgoibelgleaa
open Go.RowKit
set_option linter.unusedVariables false
set_option linter.unusedSimpArgs false

/-- A list of holds of the call's own, one longer at most. -/
def RetHP (w : World) (n : Nat) (xs : List (ByteArray × ByteArray)) (x y : ByteArray) (e : Ending) (w' : World) : Prop :=
  ∃ ys a c ok, e = .returned (.tuple #[.slice a ys.length c, .bool ok]) ∧ ys.length ≤ n + 1 ∧ (∀ z ∈ ys, z ∈ xs ∨ z = (x, y)) ∧ OwnR eltO w' w.heap.size a c ys ∧ Below w.heap.size w w'

/-- The state of HoldPut's loop. -/
structure HP (w W : World) (x y : ByteArray) (a : Option Addr) (c : Nat) (zs : List (ByteArray × ByteArray)) : Prop where
  hx : W.cell? ⟨w.heap.size, 0, none⟩ = some (.string x)
  hy : W.cell? ⟨w.heap.size, 1, none⟩ = some (.string y)
  lt : w.heap.size < W.heap.size
  own : OwnR eltO W (w.heap.size + 1) a c zs
  bel : Below w.heap.size w W

theorem HP.below {w W W' : World} {x y : ByteArray} {a : Option Addr} {c : Nat} {zs : List (ByteArray × ByteArray)} (h : HP w W x y a c zs) (hb : Below W.heap.size W W') : HP w W' x y a c zs :=
  ⟨(hb.cell (p := ⟨w.heap.size, 0, none⟩) h.lt).trans h.hx, (hb.cell (p := ⟨w.heap.size, 1, none⟩) h.lt).trans h.hy, Nat.lt_of_lt_of_le h.lt hb.size, h.own.below hb, h.bel.trans (hb.mono h.bel.size)⟩

theorem HP.step {w W W' : World} {x y : ByteArray} {a a' : Option Addr} {c c' L : Nat} {zs zs' : List (ByteArray × ByteArray)} {o : Obj} (h : HP w W x y a c zs) (hL : zs.length = L) (hg : (W.alloc o).grownBy W' (Value.slice a L c).ownBlock) (ho : OwnR eltO W' (w.heap.size + 1) a' c' zs') : HP w W' x y a' c' zs' := by
  subst hL
  have hne : ∀ j, some (⟨w.heap.size, j, none⟩ : Addr).block ≠ (Value.slice a zs.length c).ownBlock := by
    intro j e
    have := (h.own.lt _ e.symm).1
    simp only at this
    omega
  have hlt := h.lt
  have hx1 := (World.cell?_alloc_lt W o ⟨w.heap.size, 0, none⟩ hlt).trans h.hx
  have hy1 := (World.cell?_alloc_lt W o ⟨w.heap.size, 1, none⟩ hlt).trans h.hy
  exact ⟨hg.cell hx1 (hne 0), hg.cell hy1 (hne 1), Nat.lt_of_lt_of_le (by simp; omega) hg.size, ho, (h.bel.alloc h.bel.size o).grown hg (by have := h.bel.size; simp; omega) (fun r hr => by have := (h.own.lt r hr).1; omega)⟩

theorem newO (W : World) (x y : ByteArray) : ∀ j u, (eltO.flat [(x, y)])[j]? = some u → (W.alloc (.cells #[.string x, .string y] 36)).cell? ((⟨W.heap.size, 0, none⟩ : Addr).add j) = some u := newR eltO W (x, y) _ rfl

set_option maxHeartbeats 1000000 in
theorem holdPut_any (a : Option Addr) (n c : Nat) (xs : List (ByteArray × ByteArray)) (x y : ByteArray) (w : World) (hr : RdR eltO w a n xs) (hs : ∀ x ∈ xs, x.1.size ≤ 4611686018427387904 ∧ x.2.size ≤ 4611686018427387904) (hx : x.size ≤ 4611686018427387904) (hy : y.size ≤ 4611686018427387904) (hn : n ≤ 1000) :
    Calls Try.prog 25 #[.slice a n c, .agg #[.string x, .string y]] w (RetHP w n xs x y) := by
  have hl := Lib.hid hr.1
  have HS := Lib.hid hs
  have h0 : Below w.heap.size w (w.alloc (.cells #[.string x, .string y] 36)) := (Below.refl _ _).alloc (Nat.le_refl _) _
  have hx0 : (w.alloc (.cells #[.string x, .string y] 36)).cell? ⟨w.heap.size, 0, none⟩ = some (.string x) := by rw [cell_of_row _ w.heap.size _ _ _ (0, 0) (heap_alloc_new w _)]; rfl
  have hy0 : (w.alloc (.cells #[.string x, .string y] 36)).cell? ⟨w.heap.size, 1, none⟩ = some (.string y) := by rw [cell_of_row _ w.heap.size _ _ _ (0, 0) (heap_alloc_new w _)]; rfl
  have hlt0 : w.heap.size < (w.alloc (.cells #[.string x, .string y] 36)).heap.size := by simp
  clear hs
  go_enter Try.func25, Try.ntmps25
  go_wp2_with fail
  generalize w.alloc (.cells #[.string x, .string y] 36) = W0 at h0 hx0 hy0 hlt0 ⊢
  obtain ⟨v, hv⟩ : ∃ v, holdsV xs = v := ⟨_, rfl⟩
  have K := specHoldsValid_any a n c xs W0 (hr.below h0) HS.out (by omega)
  rw [hv] at K
  with_reducible refine K.mono ?_
  rintro e w1 ⟨rfl, hb⟩
  have h1 := h0.trans (hb.mono h0.size)
  have hx1 := (hb.cell (p := ⟨w.heap.size, 0, none⟩) hlt0).trans hx0
  have hy1 := (hb.cell (p := ⟨w.heap.size, 1, none⟩) hlt0).trans hy0
  have hlt1 := Nat.lt_of_lt_of_le hlt0 hb.size
  clear hb h0 hx0 hy0 hlt0 K hv
  cases v with
  | false =>
    go_wp2
    go_ret2
    exact ⟨[], _, 0, false, rfl, by simp, (by intro z hz; cases hz), OwnR.empty eltO h1.size, h1.alloc h1.size _⟩
  | true =>
    go_wp2_with fail
    obtain ⟨v, hv⟩ : ∃ v, okO (x, y) = v := ⟨_, rfl⟩
    have K := l31Ok_any x y w1 hx hy
    rw [hv] at K
    with_reducible refine K.mono ?_
    rintro e w2 ⟨rfl, hb⟩
    have h2 := h1.trans (hb.mono h1.size)
    have hx2 := (hb.cell (p := ⟨w.heap.size, 0, none⟩) hlt1).trans hx1
    have hy2 := (hb.cell (p := ⟨w.heap.size, 1, none⟩) hlt1).trans hy1
    have hlt2 := Nat.lt_of_lt_of_le hlt1 hb.size
    clear hb h1 hx1 hy1 hlt1 K hv
    cases v with
    | false =>
      go_wp2
      go_ret2
      exact ⟨[], _, 0, false, rfl, by simp, (by intro z hz; cases hz), OwnR.empty eltO h2.size, h2.alloc h2.size _⟩
    | true =>
      go_wp2_with fail
      have K := l31Has_any a n c xs x y w2 (hr.below h2) (by omega)
      with_reducible refine K.mono ?_
      rintro e w3 ⟨v, rfl, hb⟩
      have h3 := h2.trans (hb.mono h2.size)
      have hx3 := (hb.cell (p := ⟨w.heap.size, 0, none⟩) hlt2).trans hx2
      have hy3 := (hb.cell (p := ⟨w.heap.size, 1, none⟩) hlt2).trans hy2
      have hlt3 := Nat.lt_of_lt_of_le hlt2 hb.size
      clear hb h2 hx2 hy2 hlt2 K
      cases v with
      | true =>
        go_wp2
        go_ret2
        exact ⟨[], _, 0, false, rfl, by simp, (by intro z hz; cases hz), OwnR.empty eltO h3.size, h3.alloc h3.size _⟩
      | false =>
        by_cases hn30 : n = 8
        · subst hn30
          go_wp2
          go_ret2
          exact ⟨[], _, 0, false, rfl, by simp, (by intro z hz; cases hz), OwnR.empty eltO h3.size, h3.alloc h3.size _⟩
        · have d1 : ((n : Int) == 8) = false := by simp; omega
          have d2 : decide ((n : Int) = 8) = false := by simp; omega
          go_wp2_with fail
          have HP0 : HP w (w3.alloc (.cells #[] 36)) x y (some ⟨w3.heap.size, 0, none⟩) 0 [] := HP.below (W := w3) ⟨hx3, hy3, hlt3, OwnR.nil eltO _ _, h3⟩ ((Below.refl _ _).alloc (Nat.le_refl _) _) |> fun h => ⟨h.hx, h.hy, h.lt, OwnR.empty eltO hlt3, h.bel⟩
          go_loopw [6, 7, 8] (fun v d i wr => ∃ k : Nat, k ≤ n ∧ i = .int .i64 k ∧ ∃ db : Bool, d = .bool db ∧ ∃ zs a c L, v = .slice a L c ∧ Hid (zs.length = L) ∧ L ≤ k + 1 ∧ Hid (L ≤ k + (if db then 1 else 0)) ∧ Hid (∀ z ∈ zs, z ∈ xs ∨ z = (x, y)) ∧ HP w wr x y a c zs)
            (fun _ _ i _ => n - (intOf i).toNat)
          case atStart => exact ⟨0, Nat.zero_le _, rfl, false, rfl, [], _, _, 0, rfl, Lib.hid rfl, by omega, Lib.hid (by simp), Lib.hid (by intro z hz; cases hz), HP0⟩
          case round =>
            clear HP0 h3 hx3 hy3 hlt3
            obtain ⟨k, hk, rfl, db, rfl, zs, a', c', L, rfl, hz, hL1, hL, hin, hP⟩ := hrel
            by_cases hlt : k < n
            · obtain ⟨b, off, z, rfl, hbl, hzz, c0, c1⟩ := atO hr hlt
              have HZ := Lib.hid (List.mem_of_getElem? hzz)
              clear hzz
              have HC := Lib.hid (show ∀ W, Below w.heap.size w W → W.cell? ⟨b, off + k * 2, none⟩ = some (.string z.1) ∧ W.cell? ⟨b, off + k * 2 + 1, none⟩ = some (.string z.2) from fun W hb => ⟨(hb.cell (p := ⟨b, off + k * 2, none⟩) hbl).trans c0, (hb.cell (p := ⟨b, off + k * 2 + 1, none⟩) hbl).trans c1⟩)
              clear c0 c1
              have hk0 : (0 : Int) ≤ (k : Int) := by omega
              have hk1 : (k : Int) < (n : Int) := by omega
              cases db with
              | true =>
                have HD := Lib.hid (HC.out wr hP.bel)
                obtain ⟨c0, c1⟩ := HD.out
                have hx := hP.hx
                have hy := hP.hy
                go_wp2
                go_quiet (fail)
                have hP1 : HP w (wr.drewN nq) x y a' c' zs := hP.below (below_drewN (Below.refl _ _) nq)
                have d0 := (HC.out _ hP1.bel).1
                have d1 := (HC.out _ hP1.bel).2
                clear c0 c1 hx hy hP HD
                generalize wr.drewN nq = W at hP1 d0 d1 ⊢
                go_wp2_with (at_builtin; refine wp_appR eltO rfl _ _ rfl hz.out rfl (hP1.own.alloc _) ⟨W.heap.size, 0, none⟩ 1 1 [(z.1, z.2)] rfl rfl (newO W z.1 z.2) (by omega) (by have := hP1.lt; simp; omega) ?_; intro a8 c8 w8 hO8 hG8)
                have hP8 := HP.step hP1 hz.out hG8 hO8
                have HL8 : Hid ((zs ++ [(z.1, z.2)]).length = L + 1) := Lib.hid (by rw [List.length_append, hz.out]; rfl)
                have HI8 : Hid (∀ u ∈ zs ++ [(z.1, z.2)], u ∈ xs ∨ u = (x, y)) := Lib.hid (by
                  intro u hu
                  rcases List.mem_append.1 hu with hu | hu
                  · exact hin.out u hu
                  · rw [List.mem_singleton] at hu; subst hu; exact .inl HZ.out)
                have HK8 : Hid (L + 1 ≤ k + 1 + (if true = true then 1 else 0)) := Lib.hid (by have := hL.out; simp at this ⊢; omega)
                have HM8 : L + 1 ≤ k + 1 + 1 := by have := hL.out; simp at this; omega
                clear hO8 hG8 hP1
                go_roundw
                case rel => exact ⟨k + 1, by omega, by go_num, true, rfl, _, a8, c8, L + 1, rfl, HL8, HM8, HK8, HI8, hP8⟩
                case measure => simp [intOf]; omega
              | false =>
                have HD := Lib.hid (HC.out wr hP.bel)
                obtain ⟨c0, c1⟩ := HD.out
                have hx := hP.hx
                have hy := hP.hy
                have hblw : b < wr.heap.size := Nat.lt_of_lt_of_le hbl hP.bel.size
                have hbxw := hP.lt
                obtain ⟨v, hv⟩ : ∃ v, befO (x, y) (z.1, z.2) = v := ⟨_, rfl⟩
                have hbf := fun w => l31Before_any x y z.1 z.2 w
                rw [hv] at hbf
                go_wp2
                refine wp_region_noPanic ?_
                refine wp_region_held_drew (S := fun w' => w'.cell? ⟨b, off + k * 2, none⟩ = some (.string z.1) ∧ w'.cell? ⟨b, off + k * 2 + 1, none⟩ = some (.string z.2) ∧ w'.cell? ⟨w.heap.size, 0, none⟩ = some (.string x) ∧ w'.cell? ⟨w.heap.size, 1, none⟩ = some (.string y)) (by kernel_rfl) ?_ (fun hHeld => ?_)
                · exact ⟨c0, c1, hx, hy⟩
                refine held_yes (i := 0) 35 (v := ?_) rfl rfl (by kernel_rfl) (by kernel_rfl) (by kernel_rfl) (fun _ _ _ _ _ h => h) (by rfl) (by assumption) ?_ ?_
                rotate_left 1
                · intro w hSw
                  (try dsimp only at hSw)
                  first | (go_simp; done) | (go_simp; with_reducible rfl)
                try simp only [Act.put, List.setIfInBounds_toArray, List.set_cons_zero, List.set_cons_succ]
                refine held_yes (i := 1) 36 (v := ?_) rfl rfl (by kernel_rfl) (by kernel_rfl) (by kernel_rfl) (fun _ _ _ _ _ h => h) (by rfl) (by assumption) ?_ ?_
                rotate_left 1
                · intro w hSw
                  (try dsimp only at hSw)
                  first | (go_simp; done) | (go_simp; with_reducible rfl)
                try simp only [Act.put, List.setIfInBounds_toArray, List.set_cons_zero, List.set_cons_succ]
                refine held_yes (i := 2) 37 (v := ?_) rfl rfl (by kernel_rfl) (by kernel_rfl) (by kernel_rfl) (fun _ _ _ _ _ h => h) (by rfl) (by assumption) ?_ ?_
                rotate_left 1
                · intro w hSw
                  (try dsimp only at hSw)
                  first | (go_simp; done) | (go_simp; with_reducible rfl)
                try simp only [Act.put, List.setIfInBounds_toArray, List.set_cons_zero, List.set_cons_succ]
                refine held_yes (i := 3) 38 (v := ?_) rfl rfl (by kernel_rfl) (by kernel_rfl) (by kernel_rfl) (fun _ _ _ _ _ h => h) (by rfl) (by assumption) ?_ ?_
                rotate_left 1
                · intro w hSw
                  (try dsimp only at hSw)
                  first | (go_simp; done) | (go_simp; with_reducible rfl)
                try simp only [Act.put, List.setIfInBounds_toArray, List.set_cons_zero, List.set_cons_succ]
                refine held_yes (i := 4) 39 (v := ?_) rfl rfl (by kernel_rfl) (by kernel_rfl) (by kernel_rfl) (fun _ _ _ _ _ h => h) (by rfl) (by assumption) ?_ ?_
                rotate_left 1
                · intro w hSw
                  (try dsimp only at hSw)
                  first | (go_simp; done) | (go_simp; with_reducible rfl)
                try simp only [Act.put, List.setIfInBounds_toArray, List.set_cons_zero, List.set_cons_succ]
                refine held_yes (i := 5) 40 (v := ?_) rfl rfl (by kernel_rfl) (by kernel_rfl) (by kernel_rfl) (fun _ _ _ _ _ h => h) (by rfl) (by assumption) ?_ ?_
                rotate_left 1
                · intro w hSw
                  (try dsimp only at hSw)
                  first | (go_simp; done) | (go_simp; with_reducible rfl)
                try simp only [Act.put, List.setIfInBounds_toArray, List.set_cons_zero, List.set_cons_succ]
                refine held_yes (i := 6) 41 (v := ?_) rfl rfl (by kernel_rfl) (by kernel_rfl) (by kernel_rfl) (fun _ _ _ _ _ h => h) (by rfl) (by assumption) ?_ ?_
                rotate_left 1
                · intro w hSw
                  (try dsimp only at hSw)
                  first | (go_simp; done) | (go_simp; with_reducible rfl)
                try simp only [Act.put, List.setIfInBounds_toArray, List.set_cons_zero, List.set_cons_succ]
                refine held_yes (i := 7) 42 (v := ?_) rfl rfl (by kernel_rfl) (by kernel_rfl) (by kernel_rfl) (fun _ _ _ _ _ h => h) (by rfl) (by assumption) ?_ ?_
                rotate_left 1
                · intro w hSw
                  (try dsimp only at hSw)
                  first | (go_simp; done) | (go_simp; with_reducible rfl)
                try simp only [Act.put, List.setIfInBounds_toArray, List.set_cons_zero, List.set_cons_succ]
                refine wpAnyH_ready (rs := [8]) (by kernel_rfl) (by simp) ?_
                refine AllReadyH.cons rfl (fun K hK => ?_) AllReadyH.nil
                go_simp
                with_reducible refine (hbf _).mono ?_
                rintro e w4 ⟨rfl, hb5⟩
                go_wp2_with fail
                refine hK.out _ _ ?_ (fun hHeld => ?_)
                · exact ⟨(hb5.cell (p := ⟨b, off + k * 2, none⟩) hblw).trans c0, (hb5.cell (p := ⟨b, off + k * 2 + 1, none⟩) hblw).trans c1, (hb5.cell (p := ⟨w.heap.size, 0, none⟩) hbxw).trans hx, (hb5.cell (p := ⟨w.heap.size, 1, none⟩) hbxw).trans hy⟩
                clear hK K
                try simp only [Act.put, List.setIfInBounds_toArray, List.set_cons_zero, List.set_cons_succ]
                refine held_yes (i := 9) 44 (v := ?_) rfl rfl (by kernel_rfl) (by kernel_rfl) (by kernel_rfl) (fun _ _ _ _ _ h => h) (by rfl) (by assumption) ?_ ?_
                rotate_left 1
                · intro w hSw
                  (try dsimp only at hSw)
                  first | (go_simp; done) | (go_simp; with_reducible rfl)
                try simp only [Act.put, List.setIfInBounds_toArray, List.set_cons_zero, List.set_cons_succ]
                refine wpAnyH_done (by kernel_rfl) ?_ _
                refine NoPanic.normal ?_
                have hP1 : HP w w4 x y a' c' zs := (hP.below (below_drewN (Below.refl _ _) 1)).below hb5
                have d0 := (HC.out _ hP1.bel).1
                have d1 := (HC.out _ hP1.bel).2
                have hx1 := hP1.hx
                have hy1 := hP1.hy
                clear c0 c1 hx hy hP HD hbf hv hb5 hblw hbxw
                cases v with
                | false =>
                  clear hx1 hy1
                  go_wp2_with (at_builtin; refine wp_appR eltO rfl _ _ rfl hz.out rfl (hP1.own.alloc _) ⟨w4.heap.size, 0, none⟩ 1 1 [(z.1, z.2)] rfl rfl (newO w4 z.1 z.2) (by omega) (by have := hP1.lt; simp; omega) ?_; intro a8 c8 w8 hO8 hG8)
                  have hP8 := HP.step hP1 hz.out hG8 hO8
                  have HL8 : Hid ((zs ++ [(z.1, z.2)]).length = L + 1) := Lib.hid (by rw [List.length_append, hz.out]; rfl)
                  have HI8 : Hid (∀ u ∈ zs ++ [(z.1, z.2)], u ∈ xs ∨ u = (x, y)) := Lib.hid (by
                    intro u hu
                    rcases List.mem_append.1 hu with hu | hu
                    · exact hin.out u hu
                    · rw [List.mem_singleton] at hu; subst hu; exact .inl HZ.out)
                  have HK8 : Hid (L + 1 ≤ k + 1 + (if false = true then 1 else 0)) := Lib.hid (by have := hL.out; simp at this ⊢; omega)
                  have HM8 : L + 1 ≤ k + 1 + 1 := by have := hL.out; simp at this; omega
                  clear hO8 hG8 hP1
                  go_roundw
                  case rel => exact ⟨k + 1, by omega, by go_num, false, rfl, _, a8, c8, L + 1, rfl, HL8, HM8, HK8, HI8, hP8⟩
                  case measure => simp [intOf]; omega
                | true =>
                  clear d0 d1
                  go_wp2_with (at_builtin; first
                    | (refine wp_appR eltO rfl _ _ rfl hz.out rfl (hP1.own.alloc _) ⟨w4.heap.size, 0, none⟩ 1 1 [(x, y)] rfl rfl (newO w4 x y) (by omega) (by have := hP1.lt; simp; omega) ?_; intro a7 c7 w7 hO7 hG7; have hP7 := HP.step hP1 hz.out hG7 hO7; have HL7 : Hid ((zs ++ [(x, y)]).length = L + 1) := Lib.hid (by rw [List.length_append, hz.out]; rfl); have d0 := (HC.out _ hP7.bel).1; have d1 := (HC.out _ hP7.bel).2)
                    | (refine wp_appR eltO rfl _ _ rfl HL7.out rfl (hP7.own.alloc _) ⟨w7.heap.size, 0, none⟩ 1 1 [(z.1, z.2)] rfl rfl (newO w7 z.1 z.2) (by omega) (by have := hP7.lt; simp; omega) ?_; intro a8 c8 w8 hO8 hG8))
                  have HI7 : Hid (∀ u ∈ zs ++ [(x, y)], u ∈ xs ∨ u = (x, y)) := Lib.hid (by
                    intro u hu
                    rcases List.mem_append.1 hu with hu | hu
                    · exact hin.out u hu
                    · rw [List.mem_singleton] at hu; subst hu; exact .inr rfl)
                  clear hO7 hG7 hP1 hx1 hy1
                  have hP8 := HP.step hP7 HL7.out hG8 hO8
                  have HL8 : Hid (((zs ++ [(x, y)]) ++ [(z.1, z.2)]).length = (L + 1) + 1) := Lib.hid (by rw [List.length_append, HL7.out]; rfl)
                  have HI8 : Hid (∀ u ∈ (zs ++ [(x, y)]) ++ [(z.1, z.2)], u ∈ xs ∨ u = (x, y)) := Lib.hid (by
                    intro u hu
                    rcases List.mem_append.1 hu with hu | hu
                    · exact HI7.out u hu
                    · rw [List.mem_singleton] at hu; subst hu; exact .inl HZ.out)
                  have HK8 : Hid ((L + 1) + 1 ≤ k + 1 + (if true = true then 1 else 0)) := Lib.hid (by have := hL.out; simp at this ⊢; omega)
                  have HM8 : (L + 1) + 1 ≤ k + 1 + 1 := by have := hL.out; simp at this; omega
                  clear hO8 hG8 hP7
                  go_roundw
                  case rel => exact ⟨k + 1, by omega, by go_num, true, rfl, _, a8, c8, (L + 1) + 1, rfl, HL8, HM8, HK8, HI8, hP8⟩
                  case measure => simp [intOf]; omega
            · obtain rfl : k = n := by omega
              cases db with
              | true =>
                have hO := hP.own.mono (Nat.le_succ w.heap.size)
                have hb := hP.bel
                clear hP
                go_wp2
                go_ret2
                refine ⟨zs, a', c', true, by rw [hz.out]; rfl, by rw [hz.out]; omega, hin.out, hO, hb⟩
              | false =>
                have hx := hP.hx
                have hy := hP.hy
                go_wp2_with (at_builtin; refine wp_appR eltO rfl _ _ rfl hz.out rfl (hP.own.alloc _) ⟨wr.heap.size, 0, none⟩ 1 1 [(x, y)] rfl rfl (newO wr x y) (by omega) (by have := hP.lt; simp; omega) ?_; intro a7 c7 w7 hO7 hG7)
                have hP7 := HP.step hP hz.out hG7 hO7
                have HL7 : Hid ((zs ++ [(x, y)]).length = L + 1) := Lib.hid (by rw [List.length_append, hz.out]; rfl)
                have HM7 : Hid (L + 1 ≤ k + 1) := Lib.hid (by have := hL.out; simp at this; omega)
                have hO := hP7.own.mono (Nat.le_succ w.heap.size)
                have hb := hP7.bel
                clear hO7 hG7 hP hx hy hP7
                go_wp2
                go_ret2
                refine ⟨zs ++ [(x, y)], a7, c7, true, by rw [HL7.out]; rfl, by rw [HL7.out]; exact HM7.out, ?_, hO, hb⟩
                intro u hu
                rcases List.mem_append.1 hu with hu | hu
                · exact hin.out u hu
                · rw [List.mem_singleton] at hu; subst hu; exact .inr rfl

end Go.Proofs.Ytcojgoibelgleaa
