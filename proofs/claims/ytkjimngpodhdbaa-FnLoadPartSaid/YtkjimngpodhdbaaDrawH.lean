/- Contract of the draw of a store. -/
import Derived.Test.YtkjimngpodhdbaaOwnH
import Derived.Test.YtkjimngpodhdbaaDrawn
import Derived.Test.YtkjimngpodhdbaaDraw
import Derived.BigQuiet
import Derived.Deep.QuietTactic
import Derived.StillTailTactics
import Derived.Outline
namespace Go.Proofs.Ytkjimngpodhdbaa
open Go.RowKit
set_option linter.unusedVariables false

/-- A store was drawn. -/
def DrewH (w wr : World) (B g : Nat) (lim : Int) (e : Ending) (w' : World) : Prop :=
  ∃ xs a c, e = .returned (.slice a xs.length c) ∧ xs.length ≤ 16 ∧ SmH xs ∧ OwnH w' wr.heap.size a c xs ∧ Drawn w w' B g lim ∧ wr.grownBy w' (some g)

theorem newHV (W : World) (y : HV) : ∀ j u, (eltH.flat [y])[j]? = some u → (W.alloc (.cells #[.int .i64 y.id, .slice y.ad y.zs.length y.cp, .int .i64 y.us] 47)).cell? ((⟨W.heap.size, 0, none⟩ : Addr).add j) = some u := newR eltH W y _ rfl

theorem useV (w : World) (x : Int) (h0 : 0 ≤ x) (h1 : x < 3) : ∃ y : Int, (w.alloc (.cells #[.int .i64 0, .int .i64 999, .int .i64 1000] 3)).cell? ⟨w.heap.size, x.toNat, none⟩ = some (.int .i64 y) ∧ 0 ≤ y ∧ y ≤ 1000 := by
  rw [cell_of_row _ w.heap.size _ _ _ (0, 0) (heap_alloc_new w _)]
  obtain rfl | rfl | rfl : x = 0 ∨ x = 1 ∨ x = 2 := by omega
  all_goals exact ⟨_, rfl, by omega, by omega⟩

/-- What is held of the world in the midst of a draw of a store. -/
structure DH (w wr : World) (B g : Nat) (lim : Int) (W : World) (a : Option Addr) (c L : Nat) (zs : List HV) : Prop where
  len : zs.length = L
  sm : SmH zs
  own : OwnH W wr.heap.size a c zs
  drawn : Drawn w W B g lim
  grow : wr.grownBy W (some g)
  lt : g < wr.heap.size

theorem DH.pick {w wr : World} {B g : Nat} {lim lim' : Int} {W W' : World} {a : Option Addr} {c L : Nat} {zs : List HV} (h : DH w wr B g lim W a c L zs) (hD : Drawn w W' B g lim') (hg : W.grownBy W' (some g)) : DH w wr B g lim' W' a c L zs :=
  ⟨h.len, h.sm, h.own.grown hg h.lt, hD, grownBy_trans h.grow hg, h.lt⟩

theorem DH.alloc {w wr : World} {B g : Nat} {lim : Int} {W : World} {a : Option Addr} {c L : Nat} {zs : List HV} (h : DH w wr B g lim W a c L zs) (o : Obj) : DH w wr B g lim (W.alloc o) a c L zs :=
  ⟨h.len, h.sm, h.own.alloc o, h.drawn.alloc o, grownBy_trans h.grow (World.grownBy_alloc W o _), h.lt⟩

theorem DH.below {w wr : World} {B g : Nat} {lim : Int} {W W' : World} {a : Option Addr} {c L : Nat} {zs : List HV} (h : DH w wr B g lim W a c L zs) (hb : Below W.heap.size W W') : DH w wr B g lim W' a c L zs :=
  ⟨h.len, h.sm, h.own.below hb, h.drawn.step (row := none) (grownBy_of_below hb _) (fun r e => by cases e), grownBy_trans h.grow (grownBy_of_below hb _), h.lt⟩

/-- A list that waits for its element. -/
structure PH (wr : World) (W : World) (zs : List HV) (ad : Option Addr) (cp : Nat) (bz : List Int) : Prop where
  own : OwnI W wr.heap.size ad cp bz
  apart : ∀ y ∈ zs, ∀ i u, apartH y ⟨i, ad, cp, bz, u⟩
  len : 1 ≤ bz.length ∧ bz.length ≤ 8

theorem PH.grown {wr W W' : World} {zs : List HV} {ad : Option Addr} {cp : Nat} {bz : List Int} {g : Nat} (h : PH wr W zs ad cp bz) (hg : W.grownBy W' (some g)) (hB : g < wr.heap.size) : PH wr W' zs ad cp bz :=
  ⟨h.own.grown hg hB, h.apart, h.len⟩

theorem DH.lit {w wr : World} {B g : Nat} {lim : Int} {W : World} {a : Option Addr} {c L : Nat} {zs : List HV} (h : DH w wr B g lim W a c L zs) (bz : List Int) (hwf : WfI bz) (hl : 1 ≤ bz.length ∧ bz.length ≤ 8) :
    DH w wr B g lim (W.alloc (.cells (bz.map (Value.int .i64)).toArray 3)) a c L zs ∧ PH wr (W.alloc (.cells (bz.map (Value.int .i64)).toArray 3)) zs (some ⟨W.heap.size, 0, none⟩) bz.length bz := by
  have ho := OwnI.lit W bz hwf (by omega)
  refine ⟨h.alloc _, ⟨ho.mono h.grow.size, fun y hy i u => ?_, hl⟩⟩
  exact (h.own.apartNew (x := ⟨i, some ⟨W.heap.size, 0, none⟩, bz.length, bz, u⟩) (Nat.le_refl _) ho y hy).1

theorem DH.push {w wr : World} {B g : Nat} {lim : Int} {W W' : World} {a a' : Option Addr} {c c' L : Nat} {zs : List HV} {ad : Option Addr} {cp : Nat} {bz : List Int} {o : Obj} {i u : Int} (h : DH w wr B g lim W a c L zs) (hp : PH wr W zs ad cp bz) (hn : 0 ≤ i ∧ i ≤ 100 ∧ 0 ≤ u ∧ u ≤ 1000)
    (hg : (W.alloc o).grownBy W' (Value.slice a L c).ownBlock) (hr : OwnR eltH W' wr.heap.size a' c' (zs ++ [⟨i, ad, cp, bz, u⟩])) (hle : w.heap.size ≤ wr.heap.size) : DH w wr B g lim W' a' c' (L + 1) (zs ++ [⟨i, ad, cp, bz, u⟩]) := by
  have hrow := fun r (hr : (Value.slice a L c).ownBlock = some r) => (h.own.row.lt r (by rw [h.len]; exact hr)).1
  refine ⟨by rw [List.length_append, h.len]; rfl, h.sm.snoc ⟨hp.len.1, hp.len.2, hn.1, hn.2.1, hn.2.2⟩, h.own.push h.len hp.own (fun y hy => hp.apart y hy i u) hg hr, ?_, ?_, h.lt⟩
  · exact (h.drawn.alloc o).step hg (fun r hr => by have := hrow r hr; have := h.lt; omega)
  · have h1 := grownBy_trans h.grow (World.grownBy_alloc W o (some g))
    refine ⟨hg.os.trans h1.os, hg.tape.trans h1.tape, hg.output.trans h1.output, Nat.le_trans h1.size hg.size, fun k hk hn => ?_⟩
    exact (hg.block k (Nat.lt_of_lt_of_le hk h1.size) (fun e => by have := hrow k e.symm; omega)).trans (h1.block k hk hn)

/-- One element has been changed. -/
theorem DH.set {w wr : World} {B g : Nat} {lim : Int} {W W' : World} {gg c L : Nat} {zs zs' : List HV} (h : DH w wr B g lim W (some ⟨gg, 0, none⟩) c L zs) (hL : zs'.length = L) (hs : SmH zs') (ho : OwnH W' wr.heap.size (some ⟨gg, 0, none⟩) c zs') (hg : W.grownBy W' (some gg)) (hgg : wr.heap.size ≤ gg) (hle : w.heap.size ≤ wr.heap.size) : DH w wr B g lim W' (some ⟨gg, 0, none⟩) c L zs' := by
  refine ⟨hL, hs, ho, h.drawn.step hg (fun r e => by injection e with e; have := h.lt; omega), ?_, h.lt⟩
  refine ⟨hg.os.trans h.grow.os, hg.tape.trans h.grow.tape, hg.output.trans h.grow.output, Nat.le_trans h.grow.size hg.size, fun k hk hn => ?_⟩
  exact (hg.block k (Nat.lt_of_lt_of_le hk h.grow.size) (fun e => by injection e with e; omega)).trans (h.grow.block k hk hn)

theorem DH.le {w wr : World} {B g : Nat} {lim lim' : Int} {W : World} {a : Option Addr} {c L : Nat} {zs : List HV} (h : DH w wr B g lim W a c L zs) (hl : lim ≤ lim') : DH w wr B g lim' W a c L zs :=
  ⟨h.len, h.sm, h.own, h.drawn.le hl, h.grow, h.lt⟩


set_option maxHeartbeats 4000000 in
theorem l91Store_any (B g : Nat) (w wr : World) (lim : Int) (h : Drawn w wr B g lim) (hl : lim ≤ 1000000000) :
    Calls Try.prog 33 #[.pointer (some ⟨g, 0, none⟩)] wr (DrewH w wr B g (lim + 110)) := by
  have HLE := Lib.hid h.2.size
  go_enter Try.func33, Try.ntmps33
  go_wp2_with fail
  have hS0 : DH w wr B g lim (wr.alloc (.cells #[] 47)) (some ⟨wr.heap.size, 0, none⟩) 0 0 [] := ⟨rfl, SmH.nil, OwnH.empty (Nat.le_refl _), h.alloc _, World.grownBy_alloc _ _ _, h.lt⟩
  clear h
  refine (pickD _ hS0.drawn (by omega)).mono ?_
  rintro e wN ⟨N, rfl, N0, N1, hD, hg⟩
  have N2 := N1 (by omega)
  have hSa := hS0.pick hD hg
  clear hD hg hS0 N1
  go_wp2_with fail
  refine (pickD _ hSa.drawn (by omega)).mono ?_
  rintro e wt ⟨t, rfl, t0, t1, hD, hg⟩
  have t2 := t1 (by omega)
  have hSb := hSa.pick hD hg
  clear hD hg hSa t1
  by_cases ht : t = 0
  · subst ht
    clear N0 N2
    go_wp2_with fail
    go_loopw [3, 5, 6] (fun v d i W => ∃ k : Nat, (k : Int) ≤ 16 ∧ i = .int .i64 k ∧ ∃ zs a c q, v = .slice a k c ∧ d = .int .i64 q ∧ 1 ≤ q ∧ q ≤ 1 + 2 * (k : Int) ∧ DH w wr B g (lim + 2 + 6 * k) W a c k zs)
      (fun _ _ i _ => (16 - intOf i).toNat)
    case atStart => exact ⟨0, by omega, rfl, [], _, _, 1, rfl, rfl, by omega, by omega, hSb.le (by omega)⟩
    case round =>
      clear hSb
      obtain ⟨k, hk, rfl, zs, a, c, q, rfl, rfl, hq0, hq1, hS⟩ := hrel
      have hk16 : k ≤ 16 := by omega
      by_cases hlt : (k : Int) < 16
      · go_wp2_with fail
        refine (pickD _ hS.drawn (by omega)).mono ?_
        rintro e wd ⟨d, rfl, d0, d1, hD, hg⟩
        have d2 := d1 (by omega)
        have hS1 := hS.pick hD hg
        clear hD hg hS d1
        go_wp2_with fail
        refine (pickD _ hS1.drawn (by omega)).mono ?_
        rintro e wx ⟨x, rfl, x0, x1, hD, hg⟩
        have x2 := x1 (by omega)
        have hS2 := hS1.pick hD hg
        clear hD hg hS1 x1
        go_wp2_with fail
        refine (pickD _ hS2.drawn (by omega)).mono ?_
        rintro e wy ⟨y, rfl, y0, y1, hD, hg⟩
        have y2 := y1 (by omega)
        have hS3 := hS2.pick hD hg
        clear hD hg hS2 y1
        obtain ⟨hS3, hP3⟩ := hS3.lit [(k : Int), x, y] (by intro z hz; simp only [List.mem_cons, List.mem_nil_iff, or_false] at hz; rcases hz with rfl | rfl | rfl <;> omega) (by simp)
        simp only [List.map_cons, List.map_nil] at hS3 hP3
        go_wp2_with fail
        refine (pickD _ hS3.drawn (by omega)).mono ?_
        rintro e wh ⟨h, rfl, h0, h1, hD, hg⟩
        have h2 := h1 (by omega)
        have hS4 := hS3.pick hD hg
        have hP4 := hP3.grown hg hS3.lt
        clear hD hg hS3 h1 hP3
        by_cases hh : h = 0
        · subst hh
          go_wp2_with fail
          refine (pickD _ hS4.drawn (by omega)).mono ?_
          rintro e wz ⟨z, rfl, z0, z1, hD, hg⟩
          have z2 := z1 (by omega)
          have hT4 := hS4.pick hD hg
          clear hD hg hS4 hP4 z1
          obtain ⟨hT4, hP4⟩ := hT4.lit [(k : Int), 1, 2, 3, 4, 5, 6, z] (by intro t ht; simp only [List.mem_cons, List.mem_nil_iff, or_false] at ht; rcases ht with rfl | rfl | rfl | rfl | rfl | rfl | rfl | rfl <;> omega) (by simp)
          simp only [List.map_cons, List.map_nil] at hT4 hP4
          go_wp2_with fail
          refine (pickD _ hT4.drawn (by omega)).mono ?_
          rintro e wu ⟨u, rfl, u0, u1, hD, hg⟩
          have u2 := u1 (by omega)
          have hS5 := hT4.pick hD hg
          have hP5 := hP4.grown hg hT4.lt
          clear hD hg hT4 u1 hP4
          go_wp2_with (at_builtin; refine wp_appR eltH rfl _ _ rfl hS5.len rfl (hS5.own.row.alloc _) ⟨wu.heap.size, 0, none⟩ 1 1 [⟨q + d, (some ⟨wz.heap.size, 0, none⟩), 8, [(k : Int), 1, 2, 3, 4, 5, 6, z], 1 + u⟩] rfl rfl (newHV wu ⟨q + d, (some ⟨wz.heap.size, 0, none⟩), 8, [(k : Int), 1, 2, 3, 4, 5, 6, z], 1 + u⟩) (by omega) (by have := hS5.grow.size; simp; omega) ?_; intro a6 c6 w6 hR6 hG6)
          have hS6 := hS5.push hP5 (i := q + d) (u := 1 + u) (by omega) hG6 hR6 HLE.out
          clear hR6 hG6 hS5 hP5
          go_roundw
          case rel => exact ⟨k + 1, by omega, by go_num, _, a6, c6, q + d + 1, rfl, rfl, by omega, by omega, hS6.le (by omega)⟩
          case measure => simp [intOf]; omega
        · have hh0 : (h == 0) = false := by simp [hh]
          go_wp2_with fail
          refine (pickD _ hS4.drawn (by omega)).mono ?_
          rintro e wu ⟨u, rfl, u0, u1, hD, hg⟩
          have u2 := u1 (by omega)
          have hS5 := hS4.pick hD hg
          have hP5 := hP4.grown hg hS4.lt
          clear hD hg hS4 u1 hP4
          go_wp2_with (at_builtin; refine wp_appR eltH rfl _ _ rfl hS5.len rfl (hS5.own.row.alloc _) ⟨wu.heap.size, 0, none⟩ 1 1 [⟨q + d, (some ⟨wy.heap.size, 0, none⟩), 3, [(k : Int), x, y], 1 + u⟩] rfl rfl (newHV wu ⟨q + d, (some ⟨wy.heap.size, 0, none⟩), 3, [(k : Int), x, y], 1 + u⟩) (by omega) (by have := hS5.grow.size; simp; omega) ?_; intro a6 c6 w6 hR6 hG6)
          have hS6 := hS5.push hP5 (i := q + d) (u := 1 + u) (by omega) hG6 hR6 HLE.out
          clear hR6 hG6 hS5 hP5
          go_roundw
          case rel => exact ⟨k + 1, by omega, by go_num, _, a6, c6, q + d + 1, rfl, rfl, by omega, by omega, hS6.le (by omega)⟩
          case measure => simp [intOf]; omega
      · have HK := Lib.hid (show (k : Int) = 16 by omega)
        go_wp2_with fail
        refine (pickD _ hS.drawn (by omega)).mono ?_
        rintro e ws ⟨s, rfl, s0, s1, hD, hg⟩
        have s2 := s1 (by omega)
        have hS1 := hS.pick hD hg
        clear hD hg hS s1
        by_cases hs0 : s = 0
        · subst hs0
          by_cases hn1 : (1 : Int) < 16
          · have hk2 : 2 ≤ k := by have := HK.out; omega
            obtain ⟨gg, rfl, hBg, hgg⟩ := hS1.own.row.head (by rw [hS1.len]; omega)
            obtain ⟨x0, hx0⟩ : ∃ x0, zs[0]? = some x0 := ⟨_, List.getElem?_eq_getElem (by rw [hS1.len]; omega)⟩
            obtain ⟨x1, hx1⟩ : ∃ x1, zs[1]? = some x1 := ⟨_, List.getElem?_eq_getElem (by rw [hS1.len]; omega)⟩
            have c1 := (cellsH hS1.own.row hx0).1.2.1
            have hO0 := hS1.own.ins x0 (List.mem_of_getElem? hx0)
            have hw0 := hO0.wf
            have hl0 := (hS1.sm x0 (List.mem_of_getElem? hx0)).1
            have hl8 := (hS1.sm x0 (List.mem_of_getElem? hx0)).2.1
            obtain ⟨g0, hg0, _, hg0l⟩ := hO0.head (by omega)
            have hr0 := hO0.alloc (.cells #[] 3)
            rw [hg0] at hr0 c1
            have hcl := hr0.cells
            have hik : (1 : Int) < (k : Int) := by omega
            have hik0 : (0 : Int) < (k : Int) := by omega
            have hikn : 0 < k := by omega
            have hikn1 : 1 < k := by omega
            have d0 := (World.cell?_alloc_lt ws (.cells #[] 3) ⟨gg, 0 * 3 + 1, none⟩ hgg).trans c1
            simp only [Nat.zero_mul, Nat.zero_add] at d0
            have HX := Lib.hid hx1
            have HW := Lib.hid hw0
            have HC := Lib.hid hcl
            clear c1 hx0 hx1 hcl hr0 hw0 hO0 hg0
            go_wp2_with (at_builtin; refine wp_app rfl _ _ rfl rfl (OwnI.empty (Nat.le_refl _)) ⟨g0, 0, none⟩ x0.zs.length x0.cp x0.zs rfl rfl HC.out HW.out (by simp; omega) (by simp) ?_; intro a5 c5 w5 hO5 hG5; have hb5 : Below ws.heap.size ws w5 := ((Below.refl _ _).alloc (Nat.le_refl _) _).grown hG5 (by simp) (by intro r hr; simp [Value.ownBlock] at hr; omega); have hS5 := hS1.below hb5; have q1 : w5.cell? ⟨gg, 4, none⟩ = some (.slice x1.ad x1.zs.length x1.cp) := (cellsH hS5.own.row HX.out).1.2.1; have f1 : w5.frozen? ⟨gg, 4, none⟩ = false := (cellsH hS5.own.row HX.out).2.2.1)
            have hset := hS5.own.row.set1 1 x1 ⟨x1.id, a5, c5, x0.zs, x1.us⟩ HX.out 1 (.slice a5 x0.zs.length c5) (by decide) rfl
            have hsx := hS5.sm x1 (List.mem_of_getElem? HX.out)
            have hap := hS1.own.apartNew (x := ⟨x1.id, a5, c5, x0.zs, x1.us⟩) (Nat.le_refl _) hO5
            have hS6 := Lib.hid (hS5.set (zs' := zs.set 1 ⟨x1.id, a5, c5, x0.zs, x1.us⟩) (by rw [List.length_set, hS5.len]) (hS5.sm.set 1 ⟨hl0, hl8, hsx.2.2.1, hsx.2.2.2.1, hsx.2.2.2.2.1, hsx.2.2.2.2.2⟩) (hS5.own.setList HX.out (y := ⟨x1.id, a5, c5, x0.zs, x1.us⟩) (hO5.mono hS1.grow.size) hap hset.1 hset.2) hset.2 hBg HLE.out)
            clear hset hS1 hS5 hap hsx hO5 hG5 hb5 d0
            go_ret
            exact ⟨_, _, c, by rw [hS6.out.len]; rfl, by rw [hS6.out.len]; omega, hS6.out.sm, hS6.out.own, hS6.out.drawn.le (by omega), hS6.out.grow⟩
          · omega
        · have hs0' : (s == 0) = false := by simp [hs0]
          by_cases hs1 : s = 1
          · subst hs1
            by_cases hn1 : (0 : Int) < 16
            · have hk1 : 1 ≤ k := by have := HK.out; omega
              obtain ⟨gg, rfl, hBg, hgg⟩ := hS1.own.row.head (by rw [hS1.len]; omega)
              go_wp2_with fail
              refine (pickD _ hS1.drawn (by omega)).mono ?_
              rintro e wj ⟨j, rfl, j0, j1, hD, hg⟩
              have j2 := j1 (by omega)
              have hS2 := hS1.pick hD hg
              clear hD hg hS1 j1
              obtain ⟨j, rfl⟩ := Int.eq_ofNat_of_zero_le j0
              have hjk : j < k := by have := HK.out; omega
              have hS3 := hS2.alloc (.cells #[.int .i64 0, .int .i64 999, .int .i64 1000] 3)
              have hgj : g < wj.heap.size := Nat.lt_of_lt_of_le hS2.lt hS2.grow.size
              clear hS2
              go_wp2_with fail
              refine (pickD _ hS3.drawn (by omega)).mono ?_
              rintro e wm ⟨m, rfl, m0, m1, hD, hg⟩
              have m2 := m1 (by omega)
              have hS4 := hS3.pick hD hg
              obtain ⟨v, hv, hv0, hv1⟩ := useV wj m m0 m2
              have hv4 := hg.cell hv (by intro h; injection h with h; simp only at h; omega)
              clear hD hg hS3 m1 hv hgj
              obtain ⟨x, hx⟩ : ∃ x, zs[j]? = some x := ⟨_, List.getElem?_eq_getElem (by rw [hS4.len]; omega)⟩
              obtain ⟨⟨c0, c1, c2⟩, f0, f1, f2⟩ := cellsH hS4.own.row hx
              have hset := hS4.own.row.set1 j x ⟨x.id, x.ad, x.cp, x.zs, v⟩ hx 2 (.int .i64 v) (by decide) rfl
              have hsx := hS4.sm x (List.mem_of_getElem? hx)
              have hS5 := Lib.hid (hS4.set (zs' := zs.set j ⟨x.id, x.ad, x.cp, x.zs, v⟩) (by rw [List.length_set, hS4.len]) (hS4.sm.set j ⟨hsx.1, hsx.2.1, hsx.2.2.1, hsx.2.2.2.1, hv0, hv1⟩) (hS4.own.setNums hx ⟨rfl, rfl, rfl⟩ hset.1 hset.2) hset.2 hBg HLE.out)
              clear hset hS4 hx c0 c1 f0 f1 hsx
              go_wp2
              go_ret
              exact ⟨_, _, c, by rw [hS5.out.len]; rfl, by rw [hS5.out.len]; omega, hS5.out.sm, hS5.out.own, hS5.out.drawn.le (by omega), hS5.out.grow⟩
            · omega
          · have hs1' : (s == 1) = false := by simp [hs1]
            go_wp2
            go_ret
            exact ⟨zs, a, c, by rw [hS1.len]; rfl, by rw [hS1.len]; omega, hS1.sm, hS1.own, hS1.drawn.le (by omega), hS1.grow⟩
  · have ht0 : (t == 0) = false := by simp [ht]
    go_wp2_with fail
    go_loopw [3, 5, 6] (fun v d i W => ∃ k : Nat, (k : Int) ≤ N ∧ i = .int .i64 k ∧ ∃ zs a c q, v = .slice a k c ∧ d = .int .i64 q ∧ 1 ≤ q ∧ q ≤ 1 + 2 * (k : Int) ∧ DH w wr B g (lim + 2 + 6 * k) W a c k zs)
      (fun _ _ i _ => (N - intOf i).toNat)
    case atStart => exact ⟨0, by omega, rfl, [], _, _, 1, rfl, rfl, by omega, by omega, hSb.le (by omega)⟩
    case round =>
      clear hSb
      obtain ⟨k, hk, rfl, zs, a, c, q, rfl, rfl, hq0, hq1, hS⟩ := hrel
      have hk16 : k ≤ 16 := by omega
      by_cases hlt : (k : Int) < N
      · go_wp2_with fail
        refine (pickD _ hS.drawn (by omega)).mono ?_
        rintro e wd ⟨d, rfl, d0, d1, hD, hg⟩
        have d2 := d1 (by omega)
        have hS1 := hS.pick hD hg
        clear hD hg hS d1
        go_wp2_with fail
        refine (pickD _ hS1.drawn (by omega)).mono ?_
        rintro e wx ⟨x, rfl, x0, x1, hD, hg⟩
        have x2 := x1 (by omega)
        have hS2 := hS1.pick hD hg
        clear hD hg hS1 x1
        go_wp2_with fail
        refine (pickD _ hS2.drawn (by omega)).mono ?_
        rintro e wy ⟨y, rfl, y0, y1, hD, hg⟩
        have y2 := y1 (by omega)
        have hS3 := hS2.pick hD hg
        clear hD hg hS2 y1
        obtain ⟨hS3, hP3⟩ := hS3.lit [(k : Int), x, y] (by intro z hz; simp only [List.mem_cons, List.mem_nil_iff, or_false] at hz; rcases hz with rfl | rfl | rfl <;> omega) (by simp)
        simp only [List.map_cons, List.map_nil] at hS3 hP3
        go_wp2_with fail
        refine (pickD _ hS3.drawn (by omega)).mono ?_
        rintro e wh ⟨h, rfl, h0, h1, hD, hg⟩
        have h2 := h1 (by omega)
        have hS4 := hS3.pick hD hg
        have hP4 := hP3.grown hg hS3.lt
        clear hD hg hS3 h1 hP3
        by_cases hh : h = 0
        · subst hh
          go_wp2_with fail
          refine (pickD _ hS4.drawn (by omega)).mono ?_
          rintro e wz ⟨z, rfl, z0, z1, hD, hg⟩
          have z2 := z1 (by omega)
          have hT4 := hS4.pick hD hg
          clear hD hg hS4 hP4 z1
          obtain ⟨hT4, hP4⟩ := hT4.lit [(k : Int), 1, 2, 3, 4, 5, 6, z] (by intro t ht; simp only [List.mem_cons, List.mem_nil_iff, or_false] at ht; rcases ht with rfl | rfl | rfl | rfl | rfl | rfl | rfl | rfl <;> omega) (by simp)
          simp only [List.map_cons, List.map_nil] at hT4 hP4
          go_wp2_with fail
          refine (pickD _ hT4.drawn (by omega)).mono ?_
          rintro e wu ⟨u, rfl, u0, u1, hD, hg⟩
          have u2 := u1 (by omega)
          have hS5 := hT4.pick hD hg
          have hP5 := hP4.grown hg hT4.lt
          clear hD hg hT4 u1 hP4
          go_wp2_with (at_builtin; refine wp_appR eltH rfl _ _ rfl hS5.len rfl (hS5.own.row.alloc _) ⟨wu.heap.size, 0, none⟩ 1 1 [⟨q + d, (some ⟨wz.heap.size, 0, none⟩), 8, [(k : Int), 1, 2, 3, 4, 5, 6, z], 1 + u⟩] rfl rfl (newHV wu ⟨q + d, (some ⟨wz.heap.size, 0, none⟩), 8, [(k : Int), 1, 2, 3, 4, 5, 6, z], 1 + u⟩) (by omega) (by have := hS5.grow.size; simp; omega) ?_; intro a6 c6 w6 hR6 hG6)
          have hS6 := hS5.push hP5 (i := q + d) (u := 1 + u) (by omega) hG6 hR6 HLE.out
          clear hR6 hG6 hS5 hP5
          go_roundw
          case rel => exact ⟨k + 1, by omega, by go_num, _, a6, c6, q + d + 1, rfl, rfl, by omega, by omega, hS6.le (by omega)⟩
          case measure => simp [intOf]; omega
        · have hh0 : (h == 0) = false := by simp [hh]
          go_wp2_with fail
          refine (pickD _ hS4.drawn (by omega)).mono ?_
          rintro e wu ⟨u, rfl, u0, u1, hD, hg⟩
          have u2 := u1 (by omega)
          have hS5 := hS4.pick hD hg
          have hP5 := hP4.grown hg hS4.lt
          clear hD hg hS4 u1 hP4
          go_wp2_with (at_builtin; refine wp_appR eltH rfl _ _ rfl hS5.len rfl (hS5.own.row.alloc _) ⟨wu.heap.size, 0, none⟩ 1 1 [⟨q + d, (some ⟨wy.heap.size, 0, none⟩), 3, [(k : Int), x, y], 1 + u⟩] rfl rfl (newHV wu ⟨q + d, (some ⟨wy.heap.size, 0, none⟩), 3, [(k : Int), x, y], 1 + u⟩) (by omega) (by have := hS5.grow.size; simp; omega) ?_; intro a6 c6 w6 hR6 hG6)
          have hS6 := hS5.push hP5 (i := q + d) (u := 1 + u) (by omega) hG6 hR6 HLE.out
          clear hR6 hG6 hS5 hP5
          go_roundw
          case rel => exact ⟨k + 1, by omega, by go_num, _, a6, c6, q + d + 1, rfl, rfl, by omega, by omega, hS6.le (by omega)⟩
          case measure => simp [intOf]; omega
      · have HK := Lib.hid (show (k : Int) = N by omega)
        go_wp2_with fail
        refine (pickD _ hS.drawn (by omega)).mono ?_
        rintro e ws ⟨s, rfl, s0, s1, hD, hg⟩
        have s2 := s1 (by omega)
        have hS1 := hS.pick hD hg
        clear hD hg hS s1
        by_cases hs0 : s = 0
        · subst hs0
          by_cases hn1 : (1 : Int) < N
          · have hk2 : 2 ≤ k := by have := HK.out; omega
            obtain ⟨gg, rfl, hBg, hgg⟩ := hS1.own.row.head (by rw [hS1.len]; omega)
            obtain ⟨x0, hx0⟩ : ∃ x0, zs[0]? = some x0 := ⟨_, List.getElem?_eq_getElem (by rw [hS1.len]; omega)⟩
            obtain ⟨x1, hx1⟩ : ∃ x1, zs[1]? = some x1 := ⟨_, List.getElem?_eq_getElem (by rw [hS1.len]; omega)⟩
            have c1 := (cellsH hS1.own.row hx0).1.2.1
            have hO0 := hS1.own.ins x0 (List.mem_of_getElem? hx0)
            have hw0 := hO0.wf
            have hl0 := (hS1.sm x0 (List.mem_of_getElem? hx0)).1
            have hl8 := (hS1.sm x0 (List.mem_of_getElem? hx0)).2.1
            obtain ⟨g0, hg0, _, hg0l⟩ := hO0.head (by omega)
            have hr0 := hO0.alloc (.cells #[] 3)
            rw [hg0] at hr0 c1
            have hcl := hr0.cells
            have hik : (1 : Int) < (k : Int) := by omega
            have hik0 : (0 : Int) < (k : Int) := by omega
            have hikn : 0 < k := by omega
            have hikn1 : 1 < k := by omega
            have d0 := (World.cell?_alloc_lt ws (.cells #[] 3) ⟨gg, 0 * 3 + 1, none⟩ hgg).trans c1
            simp only [Nat.zero_mul, Nat.zero_add] at d0
            have HX := Lib.hid hx1
            have HW := Lib.hid hw0
            have HC := Lib.hid hcl
            clear c1 hx0 hx1 hcl hr0 hw0 hO0 hg0
            go_wp2_with (at_builtin; refine wp_app rfl _ _ rfl rfl (OwnI.empty (Nat.le_refl _)) ⟨g0, 0, none⟩ x0.zs.length x0.cp x0.zs rfl rfl HC.out HW.out (by simp; omega) (by simp) ?_; intro a5 c5 w5 hO5 hG5; have hb5 : Below ws.heap.size ws w5 := ((Below.refl _ _).alloc (Nat.le_refl _) _).grown hG5 (by simp) (by intro r hr; simp [Value.ownBlock] at hr; omega); have hS5 := hS1.below hb5; have q1 : w5.cell? ⟨gg, 4, none⟩ = some (.slice x1.ad x1.zs.length x1.cp) := (cellsH hS5.own.row HX.out).1.2.1; have f1 : w5.frozen? ⟨gg, 4, none⟩ = false := (cellsH hS5.own.row HX.out).2.2.1)
            have hset := hS5.own.row.set1 1 x1 ⟨x1.id, a5, c5, x0.zs, x1.us⟩ HX.out 1 (.slice a5 x0.zs.length c5) (by decide) rfl
            have hsx := hS5.sm x1 (List.mem_of_getElem? HX.out)
            have hap := hS1.own.apartNew (x := ⟨x1.id, a5, c5, x0.zs, x1.us⟩) (Nat.le_refl _) hO5
            have hS6 := Lib.hid (hS5.set (zs' := zs.set 1 ⟨x1.id, a5, c5, x0.zs, x1.us⟩) (by rw [List.length_set, hS5.len]) (hS5.sm.set 1 ⟨hl0, hl8, hsx.2.2.1, hsx.2.2.2.1, hsx.2.2.2.2.1, hsx.2.2.2.2.2⟩) (hS5.own.setList HX.out (y := ⟨x1.id, a5, c5, x0.zs, x1.us⟩) (hO5.mono hS1.grow.size) hap hset.1 hset.2) hset.2 hBg HLE.out)
            clear hset hS1 hS5 hap hsx hO5 hG5 hb5 d0
            go_ret
            exact ⟨_, _, c, by rw [hS6.out.len]; rfl, by rw [hS6.out.len]; omega, hS6.out.sm, hS6.out.own, hS6.out.drawn.le (by omega), hS6.out.grow⟩
          · go_wp2
            go_ret
            exact ⟨zs, a, c, by rw [hS1.len]; rfl, by rw [hS1.len]; omega, hS1.sm, hS1.own, hS1.drawn.le (by omega), hS1.grow⟩
        · have hs0' : (s == 0) = false := by simp [hs0]
          by_cases hs1 : s = 1
          · subst hs1
            by_cases hn1 : (0 : Int) < N
            · have hk1 : 1 ≤ k := by have := HK.out; omega
              obtain ⟨gg, rfl, hBg, hgg⟩ := hS1.own.row.head (by rw [hS1.len]; omega)
              go_wp2_with fail
              refine (pickD _ hS1.drawn (by omega)).mono ?_
              rintro e wj ⟨j, rfl, j0, j1, hD, hg⟩
              have j2 := j1 (by omega)
              have hS2 := hS1.pick hD hg
              clear hD hg hS1 j1
              obtain ⟨j, rfl⟩ := Int.eq_ofNat_of_zero_le j0
              have hjk : j < k := by have := HK.out; omega
              have hS3 := hS2.alloc (.cells #[.int .i64 0, .int .i64 999, .int .i64 1000] 3)
              have hgj : g < wj.heap.size := Nat.lt_of_lt_of_le hS2.lt hS2.grow.size
              clear hS2
              go_wp2_with fail
              refine (pickD _ hS3.drawn (by omega)).mono ?_
              rintro e wm ⟨m, rfl, m0, m1, hD, hg⟩
              have m2 := m1 (by omega)
              have hS4 := hS3.pick hD hg
              obtain ⟨v, hv, hv0, hv1⟩ := useV wj m m0 m2
              have hv4 := hg.cell hv (by intro h; injection h with h; simp only at h; omega)
              clear hD hg hS3 m1 hv hgj
              obtain ⟨x, hx⟩ : ∃ x, zs[j]? = some x := ⟨_, List.getElem?_eq_getElem (by rw [hS4.len]; omega)⟩
              obtain ⟨⟨c0, c1, c2⟩, f0, f1, f2⟩ := cellsH hS4.own.row hx
              have hset := hS4.own.row.set1 j x ⟨x.id, x.ad, x.cp, x.zs, v⟩ hx 2 (.int .i64 v) (by decide) rfl
              have hsx := hS4.sm x (List.mem_of_getElem? hx)
              have hS5 := Lib.hid (hS4.set (zs' := zs.set j ⟨x.id, x.ad, x.cp, x.zs, v⟩) (by rw [List.length_set, hS4.len]) (hS4.sm.set j ⟨hsx.1, hsx.2.1, hsx.2.2.1, hsx.2.2.2.1, hv0, hv1⟩) (hS4.own.setNums hx ⟨rfl, rfl, rfl⟩ hset.1 hset.2) hset.2 hBg HLE.out)
              clear hset hS4 hx c0 c1 f0 f1 hsx
              go_wp2
              go_ret
              exact ⟨_, _, c, by rw [hS5.out.len]; rfl, by rw [hS5.out.len]; omega, hS5.out.sm, hS5.out.own, hS5.out.drawn.le (by omega), hS5.out.grow⟩
            · go_wp2
              go_ret
              exact ⟨zs, a, c, by rw [hS1.len]; rfl, by rw [hS1.len]; omega, hS1.sm, hS1.own, hS1.drawn.le (by omega), hS1.grow⟩
          · have hs1' : (s == 1) = false := by simp [hs1]
            go_wp2
            go_ret
            exact ⟨zs, a, c, by rw [hS1.len]; rfl, by rw [hS1.len]; omega, hS1.sm, hS1.own, hS1.drawn.le (by omega), hS1.grow⟩

end Go.Proofs.Ytkjimngpodhdbaa
