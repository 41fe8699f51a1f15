/- Contract of l92Space: it hands back some extents in new memory. -/
import Derived.Test.YthcjelijpeddbaaDrawn
import Derived.Test.YthcjelijpeddbaaAppX
import Derived.BigQuiet
import Derived.Deep.QuietTactic
import Derived.StillTailTactics
import Derived.Maps.AppendAt
import Derived.Outline
namespace Go.Proofs.Ythcjelijpeddbaa
open Go.RowKit
set_option linter.unusedVariables false

/-- A list of extents was drawn, of at most m. -/
def DrewX (w : World) (B g : Nat) (p : Int) (m : Nat) (e : Ending) (w' : World) : Prop :=
  ∃ xs a c, e = .returned (.slice a xs.length c) ∧ xs.length ≤ m ∧ OwnX w' w.heap.size a c xs ∧ Drawn w w' B g (p + 1000)

theorem newX (W : World) (f m : Int) : ∀ j u, (flatX [(f, m)])[j]? = some u → (W.alloc (.cells #[.int .i64 f, .int .i64 m] 32)).cell? ((⟨W.heap.size, 0, none⟩ : Addr).add j) = some u := by
  intro j u hj
  rw [Addr.add_lit, cell_of_row _ W.heap.size _ _ _ (0, 0) (heap_alloc_new W _)]
  simpa [flatX] using hj

theorem wfX_one {f m : Int} (h0 : -9223372036854775808 ≤ f) (h1 : f ≤ 9223372036854775807) (h2 : -9223372036854775808 ≤ m) (h3 : m ≤ 9223372036854775807) : WfX [(f, m)] := by
  intro z hz
  simp at hz
  subst hz
  exact ⟨⟨h0, h1⟩, h2, h3⟩

/-- Small numbers, as they are drawn. -/
def SmlX (zs : List (Int × Int)) : Prop := ∀ z ∈ zs, 0 ≤ z.1 ∧ z.1 ≤ 100 ∧ 0 ≤ z.2 ∧ z.2 ≤ 100

theorem SmlX.snoc {zs : List (Int × Int)} {f m : Int} (h : SmlX zs) (h0 : 0 ≤ f) (h1 : f ≤ 100) (h2 : 0 ≤ m) (h3 : m ≤ 100) : SmlX (zs ++ [(f, m)]) := by
  intro z hz
  rcases List.mem_append.1 hz with h' | h'
  · exact h z h'
  · simp at h'; subst h'; exact ⟨h0, h1, h2, h3⟩

theorem SmlX.at_ {zs : List (Int × Int)} (h : SmlX zs) {j : Nat} (hj : j < zs.length) : ∃ f m, zs.getD j (0, 0) = (f, m) ∧ 0 ≤ f ∧ f ≤ 100 ∧ 0 ≤ m ∧ m ≤ 100 :=
  ⟨_, _, rfl, h _ (getD_mem_pair hj)⟩

theorem Drawn.drew {w wr : World} {B g : Nat} {lim : Int} (h : Drawn w wr B g lim) : Drawn w wr.drew B g lim := by
  obtain ⟨⟨q, hq, hrd⟩, h2⟩ := h
  exact ⟨⟨q, hq, hrd.drewN 1⟩, grownBy_drewN h2 1⟩

theorem OwnX.one {W : World} {B : Nat} {f m : Int} (hB : B ≤ W.heap.size) (hw : WfX [(f, m)]) :
    OwnX (W.alloc (.cells #[.int .i64 f, .int .i64 m] 32)) B (some ⟨W.heap.size, 0, none⟩) 1 [(f, m)] :=
  ⟨hw, World.ownsRow_lit W _ 1 hB (by unfold maxLen; omega) rfl⟩

set_option maxHeartbeats 2000000 in
theorem l92Space_any (B g : Nat) (p : Int) (w : World) (hr : Rdr w B g p) (hp : p ≤ 1000000000) :
    Calls Try.prog 25 #[.pointer (some ⟨g, 0, none⟩)] w (DrewX w B g p 8) := by
  have hgl := hr.lt
  go_enter Try.func25, Try.ntmps25
  go_wp2_with fail
  have hD := (Drawn.start hr).alloc (.cells #[] 32)
  have hO : OwnX (w.alloc (.cells #[] 32)) w.heap.size (some ⟨w.heap.size, 0, none⟩) 0 [] := OwnX.empty (Nat.le_refl _)
  refine (pickD _ hD (by omega)).mono ?_
  rintro e w1 ⟨x, rfl, hx0, hx1, hD1, hg1⟩
  have hO1 := hO.grown hg1 hgl
  have hx2 := hx1 (by omega)
  clear hO hD hg1 hx1 hr
  go_wp2_with fail
  refine (pickD _ hD1 (by omega)).mono ?_
  rintro e w2 ⟨y, rfl, hy0, hy1, hD2, hg2⟩
  have hO2 := hO1.grown hg2 hgl
  have hy2 := hy1 (by omega)
  clear hO1 hD1 hg2 hy1
  go_wp2_with fail
  go_loopw [3, 4, 6] (fun v t i wr => ∃ k : Nat, (k : Int) ≤ 6 ∧ i = .int .i64 k ∧ (∃ q : Int, t = .int .i64 q ∧ 0 ≤ q ∧ q ≤ 200) ∧ ∃ zs a c, v = .slice a zs.length c ∧ zs.length = k ∧ Hid (SmlX zs) ∧ OwnX wr w.heap.size a c zs ∧ Drawn w wr B g (p + 2 + 2 * k))
    (fun _ _ i _ => (6 - intOf i).toNat)
  case atStart => exact ⟨0, by omega, rfl, ⟨x, rfl, by omega, by omega⟩, [], _, _, rfl, rfl, Lib.hid (by intro z hz; cases hz), hO2, hD2.le (by omega)⟩
  case round =>
    clear hO2 hD2
    obtain ⟨k, hk, rfl, ⟨q, rfl, q0, q1⟩, zs, a, c, rfl, hz, hsm, hO, hD⟩ := hrel
    by_cases hgo : (k : Int) < y ∧ q < 90
    · obtain ⟨hlt, hq9⟩ := hgo
      have d1 : decide ((k : Int) < y) = true := by simp; omega
      have d2 : decide (q < 90) = true := by simp; omega
      go_wp2_with fail
      refine (pickD _ hD (by omega)).mono ?_
      rintro e wA ⟨xA, rfl, xA0, xA1, hDA, hGA⟩
      have xA2 := xA1 (by omega)
      have hOA := hO.grown hGA hgl
      clear xA1 hGA hO hD
      have HW := Lib.hid (wfX_one (f := q) (m := 1 + xA) (by omega) (by omega) (by omega) (by omega))
      have HN := Lib.hid (newX wA q (1 + xA))
      go_wp2_with (at_builtin; refine wp_appX rfl _ _ rfl hz rfl (hOA.alloc _) ⟨wA.heap.size, 0, none⟩ 1 1 [(q, 1 + xA)] rfl rfl HN.out HW.out (by omega) (by have := hDA.2.size; simp; omega) ?_; intro a2 c2 w2 hO2 hG2)
      have hlen2 : (zs ++ [(q, 1 + xA)]).length = k + 1 := by simp [hz]
      have hD2 := (hDA.alloc (.cells #[.int .i64 q, .int .i64 (1 + xA)] 32)).step hG2 (by intro r hr; rw [← hz] at hr; exact own_rowX hOA hgl r hr)
      clear hG2 hDA hOA
      refine (pickD _ hD2 (by omega)).mono ?_
      rintro e wB ⟨xB, rfl, xB0, xB1, hDB, hGB⟩
      have xB2 := xB1 (by omega)
      have hOB := Lib.hid (hO2.grown hGB hgl)
      clear xB1 hGB hO2 hD2
      go_wp2
      go_roundw
      case rel => exact ⟨k + 1, by omega, by go_num, ⟨q + (1 + xA) + 1 + xB, by go_num, by omega, by omega⟩, zs ++ [(q, 1 + xA)], a2, c2, by rw [hlen2], hlen2, Lib.hid (SmlX.snoc hsm.out (by omega) (by omega) (by omega) (by omega)), hOB.out, hDB.le (by omega)⟩
      case measure => simp [intOf]; omega
    · have hor : decide ((k : Int) < y) = false ∨ (decide ((k : Int) < y) = true ∧ decide (q < 90) = false) := by
        by_cases h : (k : Int) < y
        · right; simp [h]; omega
        · left; simp; omega
      clear hgo
      rcases hor with d1 | ⟨d1, d2⟩
      all_goals
        go_wp2_with fail
        refine (pickD _ hD (by omega)).mono ?_
        rintro e wS ⟨s, rfl, s0, s1, hDS, hGS⟩
        have s2 := s1 (by omega)
        have hOS := hO.grown hGS hgl
        clear s1 hGS hO hD
        by_cases hs0 : s = 0
        · subst hs0
          go_wp2
          go_ret
          exact ⟨[(0, 100)], _, _, rfl, by simp, OwnX.one hDS.2.size (wfX_one (by omega) (by omega) (by omega) (by omega)), (hDS.alloc _).le (by omega)⟩
        · have hn0 : (s == 0) = false := by simp [hs0]
          by_cases hs1 : s = 1
          · subst hs1
            by_cases hk1 : 1 < k
            · obtain ⟨gg, rfl, hBg, hgg⟩ := hOS.head (by omega)
              obtain ⟨f0, m0, e0, f00, f01, m00, m01⟩ := hsm.out.at_ (j := 0) (by omega)
              have hc0 := hOS.cells 0 (by omega)
              have hc1 := hOS.cells 1 (by omega)
              have hset := hOS.set1 1 (by omega) (f0 + m0) (by omega) (by omega)
              rw [e0] at hc0
              obtain ⟨⟨a1, a2⟩, _, _⟩ := hc0
              obtain ⟨⟨b1, b2⟩, b3, _⟩ := hc1
              simp only [Nat.zero_mul, Nat.zero_add, Nat.one_mul] at a1 a2 b1 b3 hset
              have HS := Lib.hid hset.1
              have HL : Hid ((zs.set 1 (f0 + m0, (zs.getD 1 (0, 0)).2)).length = k) := Lib.hid (by simp [hz])
              have hD2 := hDS.step hset.2 (fun r e => by injection e; omega)
              have hz1 : (1 : Int) < (k : Int) := by omega
              clear hset hOS hDS e0 b2
              go_wp2
              have hk0 : 0 < k := by omega
              have hz0 : (0 : Int) < (k : Int) := by omega
              go_still_tail 12, (by kernel_rfl)
              go_wp2
              go_ret
              exact ⟨zs.set 1 (f0 + m0, (zs.getD 1 (0, 0)).2), some ⟨gg, 0, none⟩, _, by rw [HL.out]; rfl, by rw [HL.out]; omega, HS.out, hD2.drew.le (by omega)⟩
            · go_wp2
              go_ret
              exact ⟨zs, _, _, by rw [hz]; rfl, by omega, hOS, hDS.le (by omega)⟩
          · have hn1 : (s == 1) = false := by simp [hs1]
            by_cases hs2 : s = 2
            · subst hs2
              go_wp2_with fail
              refine (pickD _ hDS (by omega)).mono ?_
              rintro e wA ⟨xA, rfl, xA0, xA1, hDA, hGA⟩
              have xA2 := xA1 (by omega)
              have hOA := hOS.grown hGA hgl
              clear xA1 hGA hOS hDS
              have HW := Lib.hid (wfX_one (f := 98) (m := 2 + xA) (by omega) (by omega) (by omega) (by omega))
              have HN := Lib.hid (newX wA 98 (2 + xA))
              go_wp2_with (at_builtin; refine wp_appX rfl _ _ rfl hz rfl (hOA.alloc _) ⟨wA.heap.size, 0, none⟩ 1 1 [(98, 2 + xA)] rfl rfl HN.out HW.out (by omega) (by have := hDA.2.size; simp; omega) ?_; intro a2 c2 w2 hO2 hG2)
              have hlen2 : (zs ++ [(98, 2 + xA)]).length = k + 1 := by simp [hz]
              have hD2 := (hDA.alloc (.cells #[.int .i64 98, .int .i64 (2 + xA)] 32)).step hG2 (by intro r hr; rw [← hz] at hr; exact own_rowX hOA hgl r hr)
              go_ret
              exact ⟨zs ++ [(98, 2 + xA)], _, _, by rw [hlen2]; rfl, by omega, hO2, hD2.le (by omega)⟩
            · have hn2 : (s == 2) = false := by simp [hs2]
              go_wp2
              go_ret
              exact ⟨zs, _, _, by rw [hz]; rfl, by omega, hOS, hDS.le (by omega)⟩

end Go.Proofs.Ythcjelijpeddbaa
