/- Contract of DrawSpaceGive: extents and another one. -/
import Derived.Test.YthcjelijpeddbaaDrawXs
import Derived.Test.YthcjelijpeddbaaAppX
import Derived.Deep.RegionHeld3
import Derived.IntWalk
namespace Go.Proofs.Ythcjelijpeddbaa
open Go.RowKit
set_option linter.unusedVariables false

/-- Extents and one extent were drawn. -/
def GotXx (w : World) (k : Nat) (e : Ending) (w' : World) : Prop :=
  ∃ xs a c f m, e = .returned (.tuple #[.slice a xs.length c, .agg #[.int .i64 f, .int .i64 m]]) ∧ xs.length ≤ k ∧ (-9223372036854775808 ≤ f ∧ f ≤ 9223372036854775807) ∧ (-9223372036854775808 ≤ m ∧ m ≤ 9223372036854775807) ∧ OwnX w' w.heap.size a c xs ∧ Below w.heap.size w w'

theorem gotXx_below {w w0 w1 w2 : World} {g : Nat} (hb0 : Below w.heap.size w w0) (hb : Below w0.heap.size w0 w1) (hg : w1.grownBy w2 (some g)) (hw : w.heap.size ≤ g) : Below w.heap.size w w2 := by
  have h1 := hb0.trans (hb.mono hb0.size)
  exact h1.grown hg h1.size (fun r hr => by injection hr with hr; omega)

theorem grownBy_set1 (w : World) (g k : Nat) (v : Value) : w.grownBy (w.setCell ⟨g, k, none⟩ v) (some g) :=
  ⟨rfl, rfl, rfl, by simp [World.setCell], fun j _ hj => Below.heap_setCell _ _ _ _ (fun e => hj (by rw [e]))⟩

/-- The result's block, as cells that may be written. -/
theorem resCells {w : World} {R : Nat} {u v : Value} {t : TypeId} (h : w.heap[R]? = some (.cells #[u, v] t (0, 0))) :
    w.cell? ⟨R, 0, none⟩ = some u ∧ w.cell? ⟨R, 1, none⟩ = some v ∧ w.frozen? ⟨R, 0, none⟩ = false ∧ w.frozen? ⟨R, 1, none⟩ = false := by
  refine ⟨?_, ?_, frozen_of_row w R 0 _ _ h, frozen_of_row w R 1 _ _ h⟩
  · rw [cell_of_row w R 0 _ _ (0, 0) h]; rfl
  · rw [cell_of_row w R 1 _ _ (0, 0) h]; rfl

theorem keepBlock {w w5 : World} {R g : Nat} {o ob : Obj} (h : w.heap[R]? = some ob) (hg : ((w.alloc o).drew).grownBy w5 (some g)) (hne : R ≠ g) : w5.heap[R]? = some ob := by
  have hlt := (Array.getElem?_eq_some_iff.1 h).1
  refine (hg.block R (by simp; omega) (fun e => by injection e with e; exact hne e)).trans ?_
  show (w.heap.push o)[R]? = some ob
  rw [Array.getElem?_push_lt hlt, ← Array.getElem?_eq_getElem hlt]; exact h

theorem setTwo_other {w : World} {R b : Nat} {u v : Value} (o : Nat) (hne : R ≠ b) : ((w.setCell ⟨R, 0, none⟩ u).setCell ⟨R, 1, none⟩ v).cell? ⟨b, o, none⟩ = w.cell? ⟨b, o, none⟩ :=
  (World.cell?_setCell_other _ ⟨R, 1, none⟩ ⟨b, o, none⟩ _ (fun e => by injection e with e _ _; exact hne e)).trans (World.cell?_setCell_other _ ⟨R, 0, none⟩ ⟨b, o, none⟩ _ (fun e => by injection e with e _ _; exact hne e))

/-- The result's block is written. -/
theorem resWritten {w : World} {R : Nat} {u v u' v' : Value} {t : TypeId} (h : w.heap[R]? = some (.cells #[u, v] t (0, 0))) :
    ((w.setCell ⟨R, 0, none⟩ u').setCell ⟨R, 1, none⟩ v').cell? ⟨R, 0, none⟩ = some u' ∧ ((w.setCell ⟨R, 0, none⟩ u').setCell ⟨R, 1, none⟩ v').cell? ⟨R, 1, none⟩ = some v' ∧ w.grownBy ((w.setCell ⟨R, 0, none⟩ u').setCell ⟨R, 1, none⟩ v') (some R) := by
  have h1 := heap_setCell_same w R 0 _ _ u' h
  have h2 := heap_setCell_same _ R 1 _ _ v' h1
  exact ⟨(resCells h2).1, (resCells h2).2.1, grownBy_trans (grownBy_set1 w R 0 u') (grownBy_set1 _ R 1 v')⟩

theorem boxCells {w w5 : World} {g : Nat} {u v : Value} {t : TypeId} (hg : ((w.alloc (.cells #[u, v] t)).drew).grownBy w5 (some g)) (hne : g < w.heap.size) :
    w5.cell? ⟨w.heap.size, 0, none⟩ = some u ∧ w5.cell? ⟨w.heap.size, 1, none⟩ = some v := by
  have hb : (w.alloc (.cells #[u, v] t)).drew.heap[w.heap.size]? = some (.cells #[u, v] t (0, 0)) := heap_alloc_new w _
  have h5 := (hg.block w.heap.size (by simp) (fun e => by injection e with e; omega)).trans hb
  exact ⟨(resCells h5).1, (resCells h5).2.1⟩

set_option maxHeartbeats 2000000 in
theorem DrawSpaceGive_any (a : Option Addr) (n c : Nat) (w : World) (h : RdC w a n) (hc : n ≤ c) (hn : n ≤ 1048576) :
    Calls Try.prog 13 #[.slice a n c] w (GotXx w 8) := by
  obtain ⟨W0, hW0⟩ : ∃ W0 : World, W0 = w.alloc (.cells #[.int .i64 0, .int .i64 0] 32) := ⟨_, rfl⟩
  have hb0 : Below w.heap.size w W0 := by rw [hW0]; exact (Below.refl _ _).alloc (Nat.le_refl _) _
  have hs0 : W0.heap.size = w.heap.size + 1 := by rw [hW0]; simp
  have r0 : W0.heap[w.heap.size]? = some (.cells #[.int .i64 0, .int .i64 0] 32 (0, 0)) := by rw [hW0]; exact heap_alloc_new w _
  have HW0 := Lib.hid hW0
  have HS0 := Lib.hid hs0
  have hlt0 : w.heap.size < W0.heap.size := by omega
  have R0 := Lib.hid r0
  clear hW0 hs0 r0
  go_enter Try.func13, Try.ntmps13
  go_wp2_with fail
  rw [← HW0.out]
  refine (l6Open_any a n c _ (h.below hb0) hc hn).mono ?_
  rintro e w1 ⟨rfl, hR, hb1, hsz⟩
  have R1 := Lib.hid ((hb1.block w.heap.size hlt0).trans R0.out)
  have HS := Lib.hid hsz
  have hlt : w.heap.size < w1.heap.size := by rw [hsz]; omega
  clear hsz
  go_wp2_with fail
  refine (l92Space_any _ _ _ _ hR (by omega)).mono ?_
  rintro e w2 ⟨zs, a2, c2, rfl, hm, hO, hD⟩
  have hgl : W0.heap.size < w1.heap.size := by rw [HS.out]; omega
  have hR2 : Hid (w2.heap[w.heap.size]? = some (.cells #[.int .i64 0, .int .i64 0] 32 (0, 0))) := Lib.hid ((hD.2.block w.heap.size hlt (fun e => by injection e with e; omega)).trans R1.out)
  clear hR R1
  have hcase : zs.length = 0 ∨ 0 < zs.length := by omega
  rcases hcase with hz0 | hz0
  · obtain rfl : zs = [] := List.eq_nil_of_length_eq_zero hz0
    have hlt2 := Nat.lt_of_lt_of_le hlt hD.2.size
    clear hz0
    go_wp2_with fail
    refine (pickD _ hD (by omega)).mono ?_
    rintro e w4 ⟨y, rfl, hy0, hy1, hD4, hg4⟩
    have hy2 := hy1 (by omega)
    have hO4 := hO.grown hg4 hgl
    have hR4 : Hid (w4.heap[w.heap.size]? = some (.cells #[.int .i64 0, .int .i64 0] 32 (0, 0))) := Lib.hid ((hg4.block w.heap.size hlt2 (fun e => by injection e with e; omega)).trans hR2.out)
    have hlt4 := Nat.lt_of_lt_of_le hlt hD4.2.size
    clear hy1 hg4 hO hD hR2
    go_wp2_with fail
    refine (pickD _ hD4 (by omega)).mono ?_
    rintro e w5 ⟨z, rfl, hz1, hz2, hD5, hg5⟩
    have hz3 := hz2 (by omega)
    have hO5 := hO4.grown hg5 hgl
    have hR5 : Hid (w5.heap[w.heap.size]? = some (.cells #[.int .i64 0, .int .i64 0] 32 (0, 0))) := Lib.hid ((hg5.block w.heap.size hlt4 (fun e => by injection e with e; omega)).trans hR4.out)
    have hlt5 := Nat.lt_of_lt_of_le hlt hD5.2.size
    clear hz2 hg5 hO4 hD4 hR4
    go_wp2_with fail
    refine (pickD _ hD5 (by omega)).mono ?_
    rintro e w6 ⟨u, rfl, hu1, hu2, hD6, hg6⟩
    have hu3 := hu2 (by omega)
    have hO6 := hO5.grown hg6 hgl
    have hR6 : Hid (w6.heap[w.heap.size]? = some (.cells #[.int .i64 0, .int .i64 0] 32 (0, 0))) := Lib.hid ((hg6.block w.heap.size hlt5 (fun e => by injection e with e; omega)).trans hR5.out)
    clear hu2 hg6 hO5 hD5 hR5
    have u0 : 0 ≤ u / 19 := by omega
    have u1 : u / 19 ≤ 1 := by omega
    obtain ⟨k0, k1, k2, k3⟩ := resCells hR6.out
    have HK := Lib.hid (resWritten (u' := .int .i64 y) (v' := .int .i64 (1 + z - u / 19 * 3)) hR6.out)
    obtain ⟨e0, e1, _⟩ := HK.out
    have hO8 := (hO6.grown HK.out.2.2 hlt).mono (B' := w.heap.size) (by omega)
    have hb7 := gotXx_below hb0 hb1 hD6.2 (by omega)
    have hb8 := hb7.grown HK.out.2.2 hb7.size (fun r hr => by injection hr with hr; omega)
    go_wp2
    exact bodyPost_ret (v := .tuple #[.slice a2 0 c2, .agg #[.int .i64 y, .int .i64 (1 + z - u / 19 * 3)]]) (by simp [results, Try.results13, go_sem, e0, e1]) rfl ⟨[], a2, c2, y, (1 + z - u / 19 * 3), rfl, hm, ⟨by omega, by omega⟩, ⟨by omega, by omega⟩, hO8, hb8⟩

  · go_wp2_with fail
    refine (pickD _ hD (by omega)).mono ?_
    rintro e w3 ⟨x, rfl, hx0, hx1, hD3, hg3⟩
    have hx2 := hx1 (by omega)
    have hO3 := hO.grown hg3 hgl
    have hR3 : Hid (w3.heap[w.heap.size]? = some (.cells #[.int .i64 0, .int .i64 0] 32 (0, 0))) := Lib.hid ((hg3.block w.heap.size (Nat.lt_of_lt_of_le hlt hD.2.size) (fun e => by injection e with e; omega)).trans hR2.out)
    have hlt3 := Nat.lt_of_lt_of_le hlt hD3.2.size
    clear hx1 hg3 hO hD hR2
    by_cases hxp : 0 < x
    · have d1 : decide (0 < x) = true := by simpa using hxp
      go_wp2_with fail
      refine (pickD _ hD3 (by omega)).mono ?_
      rintro e w4 ⟨y, rfl, hy0, hy1, hD4, hg4⟩
      have hy2 := hy1 (by omega)
      have hO4 := hO3.grown hg4 hgl
      have hR4 : Hid (w4.heap[w.heap.size]? = some (.cells #[.int .i64 0, .int .i64 0] 32 (0, 0))) := Lib.hid ((hg4.block w.heap.size hlt3 (fun e => by injection e with e; omega)).trans hR3.out)
      have hlt4 := Nat.lt_of_lt_of_le hlt hD4.2.size
      clear hy1 hg4 hO3 hD3 hR3
      obtain ⟨k, rfl⟩ := Int.eq_ofNat_of_zero_le hy0
      have hk : k < zs.length := by omega
      obtain ⟨b, off, rfl, hblt, f, q, hfm, cf, cm, ⟨wf0, wf1⟩, wm0, wm1⟩ := hO4.rd.at_ hO4.wf hk
      clear hfm
      obtain ⟨sm, hsm⟩ : ∃ sm, IntKind.i64.wrap (f + q) = sm := ⟨_, rfl⟩
      have hsb : -9223372036854775808 ≤ sm ∧ sm ≤ 9223372036854775807 := by rw [← hsm, IntKind.wrap_i64]; omega
      obtain ⟨sb0, sb1⟩ := hsb
      have hgl4 := hD4.lt
      go_wp2_with fail
      go_region_held3 (fun w' => w'.cell? ⟨w4.heap.size, 0, none⟩ = some (.int .i64 f) ∧ w'.cell? ⟨w4.heap.size, 1, none⟩ = some (.int .i64 q))
        (first | go_keep | exact boxCells hG5 hgl4 | exact ⟨(setTwo_other _ (by omega)).trans (boxCells hG5 hgl4).1, (setTwo_other _ (by omega)).trans (boxCells hG5 hgl4).2⟩)
        ((go_at_call 26; refine (pickD _ (by exact (hD4.alloc _).drew) (by omega)).mono ?_; rintro e w5 ⟨z, rfl, z0, z1, hD5, hG5⟩; have z2 := z1 (by omega); have s2 : IntKind.i64.wrap (1 + z) = 1 + z := IntWalk.i64_in _ (by omega); have hR5 := Lib.hid (keepBlock hR4.out hG5 (by omega)); obtain ⟨k0, k1, k2, k3⟩ := resCells hR5.out))
      have hO5 := ((hO4.alloc (.cells #[.int .i64 f, .int .i64 q] 32)).drew).grown hG5 hgl
      clear hG5 k0 k1 k2 k3
      have HK := Lib.hid (resWritten (u' := .int .i64 sm) (v' := .int .i64 (1 + z)) hR5.out)
      obtain ⟨e0, e1, _⟩ := HK.out
      have hO8 := (hO5.grown HK.out.2.2 hlt).mono (B' := w.heap.size) (by omega)
      have hb7 := gotXx_below hb0 hb1 hD5.2 (by omega)
      have hb8 := hb7.grown HK.out.2.2 hb7.size (fun r hr => by injection hr with hr; omega)
      go_wp2
      exact bodyPost_ret (v := .tuple #[.slice (some ⟨b, off, none⟩) zs.length c2, .agg #[.int .i64 sm, .int .i64 (1 + z)]]) (by simp [results, Try.results13, go_sem, e0, e1]) rfl ⟨zs, (some ⟨b, off, none⟩), c2, sm, (1 + z), rfl, hm, ⟨by omega, by omega⟩, ⟨by omega, by omega⟩, hO8, hb8⟩
    · have d1 : decide (0 < x) = false := by simpa using hxp
      go_wp2_with fail
      refine (pickD _ hD3 (by omega)).mono ?_
      rintro e w4 ⟨y, rfl, hy0, hy1, hD4, hg4⟩
      have hy2 := hy1 (by omega)
      have hO4 := hO3.grown hg4 hgl
      have hR4 : Hid (w4.heap[w.heap.size]? = some (.cells #[.int .i64 0, .int .i64 0] 32 (0, 0))) := Lib.hid ((hg4.block w.heap.size hlt3 (fun e => by injection e with e; omega)).trans hR3.out)
      have hlt4 := Nat.lt_of_lt_of_le hlt hD4.2.size
      clear hy1 hg4 hO3 hD3 hR3
      go_wp2_with fail
      refine (pickD _ hD4 (by omega)).mono ?_
      rintro e w5 ⟨z, rfl, hz1, hz2, hD5, hg5⟩
      have hz3 := hz2 (by omega)
      have hO5 := hO4.grown hg5 hgl
      have hR5 : Hid (w5.heap[w.heap.size]? = some (.cells #[.int .i64 0, .int .i64 0] 32 (0, 0))) := Lib.hid ((hg5.block w.heap.size hlt4 (fun e => by injection e with e; omega)).trans hR4.out)
      have hlt5 := Nat.lt_of_lt_of_le hlt hD5.2.size
      clear hz2 hg5 hO4 hD4 hR4
      go_wp2_with fail
      refine (pickD _ hD5 (by omega)).mono ?_
      rintro e w6 ⟨u, rfl, hu1, hu2, hD6, hg6⟩
      have hu3 := hu2 (by omega)
      have hO6 := hO5.grown hg6 hgl
      have hR6 : Hid (w6.heap[w.heap.size]? = some (.cells #[.int .i64 0, .int .i64 0] 32 (0, 0))) := Lib.hid ((hg6.block w.heap.size hlt5 (fun e => by injection e with e; omega)).trans hR5.out)
      clear hu2 hg6 hO5 hD5 hR5
      have u0 : 0 ≤ u / 19 := by omega
      have u1 : u / 19 ≤ 1 := by omega
      obtain ⟨k0, k1, k2, k3⟩ := resCells hR6.out
      have HK := Lib.hid (resWritten (u' := .int .i64 y) (v' := .int .i64 (1 + z - u / 19 * 3)) hR6.out)
      obtain ⟨e0, e1, _⟩ := HK.out
      have hO8 := (hO6.grown HK.out.2.2 hlt).mono (B' := w.heap.size) (by omega)
      have hb7 := gotXx_below hb0 hb1 hD6.2 (by omega)
      have hb8 := hb7.grown HK.out.2.2 hb7.size (fun r hr => by injection hr with hr; omega)
      go_wp2
      exact bodyPost_ret (v := .tuple #[.slice a2 zs.length c2, .agg #[.int .i64 y, .int .i64 (1 + z - u / 19 * 3)]]) (by simp [results, Try.results13, go_sem, e0, e1]) rfl ⟨zs, a2, c2, y, (1 + z - u / 19 * 3), rfl, hm, ⟨by omega, by omega⟩, ⟨by omega, by omega⟩, hO8, hb8⟩

end Go.Proofs.Ythcjelijpeddbaa
