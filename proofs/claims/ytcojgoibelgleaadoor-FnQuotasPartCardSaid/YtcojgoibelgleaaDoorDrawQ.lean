/- Contracts of the draws of quotas. -/
import Derived.Test.YtcojgoibelgleaaDoorDrawPath
import Derived.Test.YtcojgoibelgleaaDoorEltQ
import Derived.BigQuiet
import Derived.Deep.QuietTactic
import Derived.Deep.RegionHeld3
import Derived.StillTailTactics
import Derived.Outline
namespace Go.Proofs.YtcojgoibelgleaaDoor
open Go.RowKit
set_option linter.unusedVariables false

/-- Short texts. -/
def SmQ (xs : List (ByteArray × Int)) : Prop := ∀ x ∈ xs, x.1.size ≤ 16

/-- A list of quotas was drawn. -/
def DrewQ (w : World) (B g : Nat) (lim : Int) (e : Ending) (w' : World) : Prop :=
  ∃ xs a c, e = .returned (.slice a xs.length c) ∧ xs.length ≤ 5 ∧ SmQ xs ∧ OwnR eltQ w' w.heap.size a c xs ∧ Drawn w w' B g lim

def dirsT : List ByteArray := [⟨#[]⟩, ⟨#[97]⟩, ⟨#[97, 47, 120]⟩, ⟨#[98]⟩, ⟨#[99]⟩]

theorem Drawn.drew {w wr : World} {B g : Nat} {lim : Int} (h : Drawn w wr B g lim) : Drawn w wr.drew B g lim := by
  obtain ⟨⟨q, hq, hrd⟩, h2⟩ := h
  exact ⟨⟨q, hq, hrd.drewN 1⟩, grownBy_drewN h2 1⟩

theorem OwnS.kind {w : World} {B : Nat} {a : Option Addr} {c : Nat} {ss : List ByteArray} (h : OwnS w B a c ss) : ∀ k, (Value.slice a ss.length c).ownBlock = some k → ∃ cs fz, w.heap[k]? = some (.cells cs 9 fz) := by
  intro k hk
  rcases h.2 with ⟨h1, _⟩ | ⟨g, cap, cur, hv, _, hg, _⟩
  · rw [h1] at hk; cases hk
  · rw [hv] at hk
    injection hk with hk
    subst hk
    exact ⟨_, _, hg⟩

theorem OwnR.kind {α : Type} {E : Elt α} {w : World} {B : Nat} {a : Option Addr} {c : Nat} {xs : List α} (h : OwnR E w B a c xs) : ∀ k, (Value.slice a xs.length c).ownBlock = some k → ∃ cs fz, w.heap[k]? = some (.cells cs E.ty fz) := by
  intro k hk
  rcases h.2 with ⟨h1, _⟩ | ⟨g, cap, cur, hv, _, hg, _⟩
  · rw [h1] at hk; cases hk
  · rw [hv] at hk
    injection hk with hk
    subst hk
    exact ⟨_, _, hg⟩

/-- Texts and quotas lie in blocks of their own. -/
theorem apartQ {w : World} {B B' : Nat} {a a' : Option Addr} {c c' : Nat} {ss : List ByteArray} {xs : List (ByteArray × Int)} (h : OwnS w B a c ss) (h' : OwnR eltQ w B' a' c' xs) :
    ∀ k, (Value.slice a ss.length c).ownBlock = some k → ∀ r, (Value.slice a' xs.length c').ownBlock = some r → k ≠ r := by
  intro k hk r hr e
  subst e
  obtain ⟨cs, fz, h1⟩ := h.kind k hk
  obtain ⟨cs', fz', h2⟩ := h'.kind k hr
  rw [h1] at h2
  injection h2 with h2
  injection h2 with _ h2
  exact absurd h2 (by decide)

theorem SmQ.snoc {xs : List (ByteArray × Int)} {x : ByteArray × Int} (h : SmQ xs) (hx : x.1.size ≤ 16) : SmQ (xs ++ [x]) := by
  intro z hz
  rcases List.mem_append.1 hz with h' | h'
  · exact h z h'
  · simp at h'; subst h'; exact hx

theorem SmQ.set {xs : List (ByteArray × Int)} {x : ByteArray × Int} (h : SmQ xs) (j : Nat) (hx : x.1.size ≤ 16) : SmQ (xs.set j x) := by
  intro z hz
  rcases List.mem_or_eq_of_mem_set hz with h' | rfl
  · exact h z h'
  · exact hx

theorem dirsT_at (k : Nat) (h : k < 5) : (dirsT.getD k ByteArray.empty).size ≤ 16 := by
  obtain rfl | rfl | rfl | rfl | rfl : k = 0 ∨ k = 1 ∨ k = 2 ∨ k = 3 ∨ k = 4 := by omega
  all_goals decide

theorem newQ (W : World) (x : ByteArray) (y : Int) : ∀ j u, (eltQ.flat [(x, y)])[j]? = some u → (W.alloc (.cells #[.string x, .int .i64 y] 38)).cell? ((⟨W.heap.size, 0, none⟩ : Addr).add j) = some u := newR eltQ W (x, y) _ rfl

theorem trip_at (w : World) (x : Int) (h0 : 0 ≤ x) (h1 : x < 3) (a b c : Int) : ∃ y : Int, (w.alloc (.cells #[.int .i64 a, .int .i64 b, .int .i64 c] 3)).cell? ⟨w.heap.size, x.toNat, none⟩ = some (.int .i64 y) := by
  rw [cell_of_row _ w.heap.size _ _ _ (0, 0) (heap_alloc_new w _)]
  obtain rfl | rfl | rfl : x = 0 ∨ x = 1 ∨ x = 2 := by omega
  all_goals exact ⟨_, rfl⟩

theorem keep1 {w w1 : World} {r : Option Nat} {a : Addr} {u : Value} (hg : w.grownBy w1 r) (h : w.cell? a = some u) (hn : some a.block ≠ r) : w1.cell? a = some u := hg.cell h hn
theorem keep2 {w w1 : World} {r : Option Nat} {a : Addr} {u : Value} {o : Obj} (hg : w.grownBy w1 r) (h : w.cell? a = some u) (hn : some a.block ≠ r) (hl : a.block < w.heap.size) : (w1.alloc o).cell? a = some u :=
  (World.cell?_alloc_lt w1 o a (Nat.lt_of_lt_of_le hl hg.size)).trans (hg.cell h hn)
theorem keep3 {w w1 w2 : World} {r r' : Option Nat} {a : Addr} {u : Value} {o : Obj} (hG : (w1.alloc o).grownBy w2 r') (hg : w.grownBy w1 r) (h : w.cell? a = some u) (hn : some a.block ≠ r) (hl : a.block < w.heap.size) (hn' : some a.block ≠ r') : w2.cell? a = some u :=
  hG.cell (keep2 hg h hn hl) hn'

set_option maxHeartbeats 1000000 in
theorem l92Quotas_any (B g : Nat) (p : Int) (w : World) (hr : Rdr w B g p) (hp : p ≤ 1000000000) :
    Calls Tryd.prog 12 #[.pointer (some ⟨g, 0, none⟩)] w (DrewQ w B g (p + 100)) := by
  have hgl := hr.lt
  go_enter Tryd.func12, Tryd.ntmps12
  go_wp2_with fail
  have hO0 : OwnR eltQ (w.alloc (.cells #[] 38)) w.heap.size (some ⟨w.heap.size, 0, none⟩) 0 [] := OwnR.empty eltQ (Nat.le_refl _)
  have hS0 := (OwnS.one (W := w.alloc (.cells #[] 38)) dirsT (Nat.le_refl _) (by decide)).mono (show w.heap.size ≤ (w.alloc (.cells #[] 38)).heap.size by simp)
  have hO0 := hO0.alloc (.cells (dirsT.map Value.string).toArray 9)
  have hD0 := ((Drawn.start hr).alloc (.cells #[] 38)).alloc (.cells (dirsT.map Value.string).toArray 9)
  rw [show (w.alloc (.cells #[] 38)).heap.size = w.heap.size + 1 by simp] at hS0
  go_loopw [3, 5] (fun v i wr => ∃ k : Nat, (k : Int) ≤ 5 ∧ i = .int .i64 k ∧ ∃ zs a c L, v = .slice a L c ∧ zs.length = L ∧ L ≤ k ∧ Hid (SmQ zs) ∧ OwnR eltQ wr w.heap.size a c zs ∧ OwnS wr w.heap.size (some ⟨w.heap.size + 1, 0, none⟩) 5 dirsT ∧ Drawn w wr B g (p + 2 * k))
    (fun _ i _ => (5 - intOf i).toNat)
  case atStart => exact ⟨0, by omega, rfl, [], _, _, 0, rfl, rfl, Nat.le_refl _, Lib.hid (by intro z hz; cases hz), hO0, hS0, hD0.le (by omega)⟩
  case round =>
    clear hO0 hS0 hD0
    obtain ⟨k, hk, rfl, zs, a, c, L, rfl, hz, hLk, hsm, hO, hS, hD⟩ := hrel
    by_cases hlt : (k : Int) < 5
    · go_wp2_with fail
      refine (pickD _ hD (by omega)).mono ?_
      rintro e w1 ⟨x, rfl, hx0, hx1, hD1, hg1⟩
      have hO1 := hO.grown hg1 hgl
      have hS1 := hS.grown hg1 hgl
      clear hx0 hx1 hg1 hO hS hD
      by_cases x0 : x = 0
      · subst x0
        obtain ⟨b, off, hbo, hbl, d, hd, hcell⟩ := (hS1.rd).at_ (i := k) (by show k < 5; omega)
        injection hbo with hbo
        injection hbo with hbo1 hbo2
        subst hbo1 hbo2
        rw [Nat.zero_add] at hcell
        have hd16 : d.size ≤ 16 := by rw [← hd]; exact dirsT_at k (by omega)
        have hi0 : (0 : Int) ≤ (k : Int) := by omega
        clear hd
        have hDd := hD1.drew
        have hOd := hO1.drew
        have hap := apartQ hS1 hO1
        rw [hz] at hap
        go_wp2_with fail
        have hcd : w1.drew.cell? ⟨w.heap.size + 1, k, none⟩ = some (.string d) := hcell
        have hbd : w.heap.size + 1 < w1.drew.heap.size := hbl
        have hng : some (⟨w.heap.size + 1, k, none⟩ : Addr).block ≠ some g := by intro h; injection h with h; simp only at h; omega
        have hnr : some (⟨w.heap.size + 1, k, none⟩ : Addr).block ≠ (Value.slice a L c).ownBlock := fun h => hap _ rfl _ h.symm rfl
        go_region_held3 (fun w' => w'.cell? ⟨w.heap.size + 1, k, none⟩ = some (.string d)) (first | exact hcd | exact keep1 hg4 hcd hng | exact keep2 hg4 hcd hng hbd | exact keep3 hG2 hg4 hcd hng hbd hnr)
          (first
            | (go_at_call 13; refine (pickD _ hDd (by omega)).mono ?_; rintro e w4 ⟨y, rfl, hy0, hy1, hD4, hg4⟩)
            | (refine step_appR eltQ (by rfl) _ _ (by rfl) hz (by rfl) ((hOd.grown hg4 hgl).alloc _) ⟨w4.heap.size, 0, none⟩ 1 1 [(d, y)] (by rfl) rfl (newQ w4 d y) (by omega) (by have := hD4.2.size; simp; omega) ?_; intro a2 c2 w2 hO2 hG2))
        have hS2 : OwnS w2 w.heap.size (some ⟨w.heap.size + 1, 0, none⟩) 5 dirsT := by
          refine (((show OwnS w1.drew _ _ _ _ from hS1).grown hg4 hgl).alloc _).apart hG2 ?_
          intro q hq r hr
          exact hap q hq r hr
        have hD2 := (hD4.alloc (.cells #[.string d, .int .i64 y] 38)).step hG2 (fun r hr => by rw [← hz] at hr; exact own_rowR hO1 hgl r hr)
        have hlen2 : (zs ++ [(d, y)]).length = L + 1 := by simp [hz]
        have hsm2 := Lib.hid (hsm.out.snoc (x := (d, y)) hd16)
        clear hG2 hg4 hS1 hO1 hD1 hDd hOd hD4 hcd hcell hap hsm
        go_wp2
        go_roundw
        case rel => exact ⟨k + 1, by omega, by go_num, _, a2, c2, L + 1, rfl, hlen2, by omega, hsm2, hO2, hS2, hD2.le (by omega)⟩
        case measure => simp [intOf]; omega
      · have hn0 : (x == 0) = false := by simp [x0]
        go_wp2
        go_roundw
        case rel => exact ⟨k + 1, by omega, by go_num, zs, a, c, L, rfl, hz, by omega, hsm, hO1, hS1, hD1.le (by omega)⟩
        case measure => simp [intOf]; omega
    · clear hS
      by_cases hL : L = 0
      · subst hL
        go_wp2
        go_ret
        exact ⟨zs, a, c, by rw [hz]; rfl, by omega, hsm.out, hO, hD.le (by omega)⟩
      · have hLp : 0 < L := by omega
        have hLz : (0 : Int) < (L : Int) := by omega
        go_wp2_with fail
        refine (pickD _ hD (by omega)).mono ?_
        rintro e w1 ⟨x, rfl, hx0, hx1, hD1, hg1⟩
        have hO1 := hO.grown hg1 hgl
        clear hx0 hx1 hg1 hO hD
        by_cases x0 : x = 0
        · subst x0
          go_wp2_with fail
          refine (pickD _ hD1 (by omega)).mono ?_
          rintro e w2 ⟨y, rfl, hy0, hy1, hD2, hg2⟩
          have hO2 := hO1.grown hg2 hgl
          have hy2 := hy1 (by omega)
          clear hy1 hg2 hO1 hD1
          obtain ⟨y, rfl⟩ := Int.eq_ofNat_of_zero_le hy0
          have hyL : y < L := by omega
          go_wp2_with fail
          refine (pickD _ (hD2.alloc (.cells #[.int .i64 (-1), .int .i64 999, .int .i64 1000] 3)) (by omega)).mono ?_
          rintro e w3 ⟨z, rfl, hz0, hz1, hD3, hg3⟩
          have hO3 := (hO2.alloc (.cells #[.int .i64 (-1), .int .i64 999, .int .i64 1000] 3)).grown hg3 hgl
          have hz2 := hz1 (by omega)
          obtain ⟨v, hv⟩ := trip_at w2 z hz0 hz2 (-1) 999 1000
          have hv3 := hg3.cell hv (by have := hD2.lt; intro h; injection h with h; simp only at h; omega)
          clear hz1 hg3 hO2 hD2 hv
          obtain ⟨gg, rfl, hBg, hgg⟩ := hO3.head (by omega)
          obtain ⟨x, hx⟩ : ∃ x, zs[y]? = some x := ⟨_, List.getElem?_eq_getElem (by omega)⟩
          obtain ⟨⟨c0, c1⟩, f0, f1⟩ := cellsQ hO3 hx
          have hset := hO3.set1 y x (x.1, v) hx 1 (.int .i64 v) (by decide) rfl
          have HS := Lib.hid hset.1
          have hD4 := hD3.step hset.2 (fun r e => by injection e; omega)
          have hsm2 := Lib.hid (hsm.out.set (x := (x.1, v)) y (hsm.out x (List.mem_of_getElem? hx)))
          have HL : Hid ((zs.set y (x.1, v)).length = L) := Lib.hid (by rw [List.length_set, hz])
          clear hset hO3 hD3 hx c0 f0
          go_wp2
          go_ret
          exact ⟨_, _, c, by rw [HL.out]; rfl, by rw [HL.out]; omega, hsm2.out, HS.out, hD4.le (by omega)⟩
        · have hn0 : (x == 0) = false := by simp [x0]
          go_wp2
          go_ret
          exact ⟨zs, a, c, by rw [hz]; rfl, by omega, hsm.out, hO1, hD1.le (by omega)⟩

/-- Quotas were drawn into new memory. -/
def GotQ (w : World) (e : Ending) (w' : World) : Prop :=
  ∃ xs a c, e = .returned (.slice a xs.length c) ∧ xs.length ≤ 5 ∧ SmQ xs ∧ OwnR eltQ w' w.heap.size a c xs ∧ Below w.heap.size w w'

set_option maxHeartbeats 1000000 in
theorem DrawQuotasValid_any (a : Option Addr) (n c : Nat) (w : World) (h : RdC w a n) (hc : n ≤ c) (hn : n ≤ 1048576) :
    Calls Tryd.prog 5 #[.slice a n c] w (GotQ w) := by
  go_enter Tryd.func5, Tryd.ntmps5
  go_wp2_with fail
  with_reducible refine (l6Open_any a n c _ h hc hn).mono ?_
  rintro e w1 ⟨rfl, hR, hb1, hsz⟩
  have HS := Lib.hid hsz
  clear hsz
  go_wp2_with fail
  with_reducible refine (l92Quotas_any _ _ _ _ hR (by omega)).mono ?_
  rintro e w2 ⟨zs, a2, c2, rfl, hz5, hsm, hO, hD⟩
  have hlt : w.heap.size < w1.heap.size := by rw [HS.out]; omega
  obtain ⟨L, hL⟩ : ∃ L, zs.length = L := ⟨_, rfl⟩
  rw [hL] at hz5 ⊢
  clear hR
  by_cases hL0 : L = 0
  · subst hL0
    have hb2 := got_below hb1 HS.out hD.2
    go_wp2
    go_ret
    exact ⟨zs, a2, c2, by rw [hL]; rfl, by omega, hsm, hO.mono hb1.size, hb2⟩
  · have hLz : (0 : Int) < (L : Int) := by omega
    have hLp : 0 < L := by omega
    go_wp2_with fail
    refine (pickD _ hD (by omega)).mono ?_
    rintro e w3 ⟨x, rfl, hx0, hx1, hD3, hg3⟩
    have hO3 := hO.grown hg3 hlt
    clear hx0 hx1 hg3 hO hD
    by_cases x0 : x = 0
    · subst x0
      go_wp2_with fail
      refine (pickD _ hD3 (by omega)).mono ?_
      rintro e w4 ⟨y, rfl, hy0, hy1, hD4, hg4⟩
      have hO4 := hO3.grown hg4 hlt
      have hy2 := hy1 (by omega)
      clear hy1 hg4 hO3 hD3
      obtain ⟨y, rfl⟩ := Int.eq_ofNat_of_zero_le hy0
      have hyL : y < L := by omega
      go_wp2_with fail
      with_reducible refine (l91Path_any _ _ _ _ _ hD4 (by omega)).mono ?_
      rintro e w5 ⟨d, rfl, hd, hD5, hg5⟩
      have hO5 := hO4.grown hg5 hlt
      clear hg5 hO4 hD4
      obtain ⟨gg, rfl, hBg, hgg⟩ := hO5.head (by omega)
      obtain ⟨x, hx⟩ : ∃ x, zs[y]? = some x := ⟨_, List.getElem?_eq_getElem (by omega)⟩
      obtain ⟨⟨c0, c1⟩, f0, f1⟩ := cellsQ hO5 hx
      have hset := hO5.set1 y x (d, x.2) hx 0 (.string d) (by decide) rfl
      have HT := Lib.hid (hset.1.mono hb1.size)
      have hD6 := hD5.step hset.2 (fun r e => by injection e; omega)
      have hsm2 := Lib.hid (hsm.set (x := (d, x.2)) y hd)
      have HL : Hid ((zs.set y (d, x.2)).length = L) := Lib.hid (by rw [List.length_set, hL])
      have hb2 := got_below hb1 HS.out hD6.2
      clear hset hO5 hD5 hx c1 f1 hD6
      go_wp2
      go_ret
      exact ⟨_, _, c2, by rw [HL.out]; rfl, by rw [HL.out]; omega, hsm2.out, HT.out, hb2⟩
    · have hn0 : (x == 0) = false := by simp [x0]
      have hb2 := got_below hb1 HS.out hD3.2
      go_wp2
      go_ret
      exact ⟨zs, a2, c2, by rw [hL]; rfl, by omega, hsm, hO3.mono hb1.size, hb2⟩

end Go.Proofs.YtcojgoibelgleaaDoor
