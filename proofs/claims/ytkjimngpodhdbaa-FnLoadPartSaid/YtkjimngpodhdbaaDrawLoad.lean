/- Contracts of l91Id and DrawFileLoad. -/
import Derived.Test.YtkjimngpodhdbaaRefFile
import Derived.Test.YtkjimngpodhdbaaDrawH
import Derived.Test.YtkjimngpodhdbaaDrawFile
namespace Go.Proofs.Ytkjimngpodhdbaa
open Go.RowKit
set_option linter.unusedVariables false

theorem OwnJ.grown {w w' : World} {B g : Nat} {a : Option Addr} {c : Nat} {xs : List HV} (h : OwnJ w B a c xs) (hg : w.grownBy w' (some g)) (hB : g < B) : OwnJ w' B a c xs :=
  ⟨h.row.grown hg hB, fun x hx => (h.ins x hx).grown hg hB⟩

theorem OwnJ.apart {w w' : World} {B : Nat} {a : Option Addr} {c : Nat} {xs : List HV} (h : OwnJ w B a c xs) {row : Option Nat} (hg : w.grownBy w' row) (h1 : ∀ k, (Value.slice a xs.length c).ownBlock = some k → ∀ r, row = some r → k ≠ r)
    (h2 : ∀ x ∈ xs, ∀ k, (Value.slice x.ad x.zs.length x.cp).ownBlock = some k → ∀ r, row = some r → k ≠ r) : OwnJ w' B a c xs :=
  ⟨h.row.apart hg h1, fun x hx => (h.ins x hx).apartI hg (h2 x hx)⟩

set_option maxHeartbeats 400000 in
theorem l91Id_any (B g : Nat) (w wr : World) (lim : Int) (h : Drawn w wr B g lim) (hl : lim ≤ 1000000000) (B' : Nat) (hB : g < B') (a : Option Addr) (n c : Nat) (xs : List HV) (hO : OwnR eltH wr B' a c xs) (hn : xs.length = n) (hs : ∀ x ∈ xs, 0 ≤ x.id ∧ x.id ≤ 1000) (hn2 : n ≤ 1048576) :
    Calls Try.prog 43 #[.pointer (some ⟨g, 0, none⟩), .slice a n c] wr fun e w1 => ∃ x : Int, e = .returned (.int .i64 x) ∧ 0 ≤ x ∧ x ≤ 1000 ∧ Drawn w w1 B g (lim + 3) ∧ wr.grownBy w1 (some g) := by
  have HS := Lib.hid hs
  have HN := Lib.hid hn
  clear hs hn
  by_cases h0 : n = 0
  · subst h0
    go_enter Try.func43, Try.ntmps43
    go_wp2_with fail
    refine (pickD _ h (by omega)).mono ?_
    rintro e w1 ⟨x, rfl, hx0, hx1, hD, hg⟩
    have hx2 := hx1 (by omega)
    go_wp2
    go_ret
    exact ⟨x, rfl, hx0, by omega, hD.le (by omega), hg⟩
  · have hnp : 0 < n := by omega
    have hnz : (0 : Int) < (n : Int) := by omega
    go_enter Try.func43, Try.ntmps43
    go_wp2_with fail
    refine (pickD _ h (by omega)).mono ?_
    rintro e w1 ⟨x, rfl, hx0, hx1, hD, hg⟩
    have hO1 := hO.grown hg hB
    clear hx1 hO h
    by_cases hxp : 0 < x
    · go_wp2_with fail
      refine (pickD _ hD (by omega)).mono ?_
      rintro e w2 ⟨y, rfl, hy0, hy1, hD2, hg2⟩
      have hy2 := hy1 (by omega)
      have hO2 := hO1.grown hg2 hB
      obtain ⟨y, rfl⟩ := Int.eq_ofNat_of_zero_le hy0
      have hyn : y < n := by omega
      obtain ⟨gg, rfl, hBg, hgg⟩ := hO2.head (by rw [HN.out]; omega)
      obtain ⟨z, hz⟩ : ∃ z, xs[y]? = some z := ⟨_, List.getElem?_eq_getElem (by rw [HN.out]; omega)⟩
      obtain ⟨d0, d1, d2⟩ := (cellsH hO2 hz).1
      have hzs := HS.out z (List.mem_of_getElem? hz)
      have hgg2 := grownBy_trans hg hg2
      clear hy1 hO1 hO2 hz hD hg hg2 d1 d2
      go_wp2
      go_ret
      exact ⟨z.id, rfl, hzs.1, hzs.2, hD2.le (by omega), hgg2⟩
    · have hxz : ¬ 0 < x := hxp
      go_wp2_with fail
      refine (pickD _ hD (by omega)).mono ?_
      rintro e w2 ⟨y, rfl, hy0, hy1, hD2, hg2⟩
      have hy2 := hy1 (by omega)
      have hgg2 := grownBy_trans hg hg2
      clear hO1 hD hg hg2
      go_wp2
      go_ret
      exact ⟨y, rfl, hy0, by omega, hD2.le (by omega), hgg2⟩

/-- A store and ids were drawn into new memory. -/
def GotLoad (w : World) (e : Ending) (w' : World) : Prop :=
  ∃ xs a c is a' c', e = .returned (.tuple #[.slice a xs.length c, .slice a' is.length c']) ∧ xs.length ≤ 16 ∧ (∀ x ∈ xs, x.zs.length ≤ 8) ∧ OwnR eltH w' w.heap.size a c xs ∧ InH w' xs ∧ OwnI w' w.heap.size a' c' is ∧ is.length ≤ 100 ∧ Below w.heap.size w w'

theorem got_belowL {w w1 w2 : World} (hb : Below w.heap.size w w1) (hs : w1.heap.size = w.heap.size + 1) (hg : w1.grownBy w2 (some w.heap.size)) : Below w.heap.size w w2 :=
  ⟨hg.os.trans hb.os, hg.tape.trans hb.tape, hg.output.trans hb.output, Nat.le_trans hb.size hg.size, fun k hk => (hg.block k (by omega) (fun e => by injection e with e; omega)).trans (hb.block k hk)⟩

theorem own_none {w : World} {B : Nat} {c : Nat} {zs : List Int} (h : OwnI w B none c zs) : zs = [] ∧ c = 0 := by
  rcases h.2.2 with ⟨h1, h0⟩ | ⟨g, cap, cur, h1, _⟩
  · injection h1 with _ h2 h3
    exact ⟨List.length_eq_zero_iff.1 h0, h3⟩
  · injection h1 with h1; cases h1

set_option maxHeartbeats 1000000 in
theorem DrawFileLoad_any (a : Option Addr) (n c : Nat) (w : World) (h : RdC w a n) (hc : n ≤ c) (hn : n ≤ 1048576) :
    Calls Try.prog 23 #[.slice a n c] w (GotLoad w) := by
  go_enter Try.func23, Try.ntmps23
  go_wp2_with fail
  with_reducible refine (l6Open_any a n c _ h hc hn).mono ?_
  rintro e w1 ⟨rfl, hR, hb1, hsz⟩
  have HZ := Lib.hid hsz
  have HB1 := Lib.hid hb1
  clear hsz h hb1
  have K := l91Store_any _ _ w1 w1 _ (Drawn.start hR) (by omega)
  go_wp2_with fail
  with_reducible refine K.mono ?_
  rintro e w2 ⟨zs, a2, c2, rfl, hz16, hsm, hO2, hD2, hg2⟩
  clear K hR
  obtain ⟨q, hq, hrd⟩ := hD2.1
  have hgl : w.heap.size < w1.heap.size := by rw [HZ.out]; omega
  have K := l91File_any _ _ q w2 hrd (by omega)
  obtain ⟨N, hN⟩ : ∃ N, zs.length = N := ⟨_, rfl⟩
  rw [hN] at hz16 ⊢
  have HN := Lib.hid hN
  have HSM := Lib.hid hsm
  clear hN hsm hrd
  go_wp2_with fail
  with_reducible refine K.mono ?_
  rintro e w3 ⟨bz, a3, c3, rfl, hbz, hI3, hD3⟩
  have hO3 := hO2.grown hD3.2 hgl
  have hgA := grownBy_trans hg2 hD3.2
  have hDr : Drawn w1 w3 w.heap.size w.heap.size (110 + 1000) := by
    obtain ⟨q', hq', hrd'⟩ := hD3.1
    exact ⟨⟨q', by omega, hrd'⟩, hgA⟩
  have hcap := hI3.cap
  have K := FileStore_any a2 N c2 zs a3 c3 bz w3 (by have := hO3.row.rd; rwa [HN.out] at this) hO3.inn (fun x hx => by have := (HSM.out x hx).2.1; omega) (by omega) hI3.rd hI3.wf (by omega) hcap.1 hcap.2
  clear hO2 hD2 hg2 hD3 hO3 hcap hq hI3
  go_wp2_with fail
  with_reducible refine K.mono ?_
  rintro e w4 ⟨ys, a4, c4, is, a5, c5, ok, rfl, hvy, hil, hJ4, hI4, hb34⟩
  have hgB := grownBy_trans hgA (grownBy_of_below hb34 (some w.heap.size))
  have hD4 := hDr.step (row := none) (grownBy_of_below hb34 _) (fun r e => by cases e)
  have hJ4 := hJ4.mono hgA.size
  have hI4 := hI4.mono hgA.size
  have HVY := Lib.hid hvy
  clear K hb34 hDr hgA hvy
  cases ok with
  | false =>
    clear hJ4 hI4
    have K := l91Store_any _ _ w1 w4 _ hD4 (by omega)
    go_wp2_with fail
    with_reducible refine K.mono ?_
    rintro e w5 ⟨xs, a6, c6, rfl, hx16, hsm, hO5, hD5, hg5⟩
    have hgC := grownBy_trans hgB hg5
    have hlit := OwnI.lit w5 [1, 2] (by intro z hz; simp only [List.mem_cons, List.mem_nil_iff, or_false] at hz; rcases hz with rfl | rfl <;> omega) (by simp)
    simp only [List.map_cons, List.map_nil] at hlit
    have hbF := (got_belowL HB1.out HZ.out hgC)
    have hbG := hbF.alloc hbF.size (.cells #[.int .i64 1, .int .i64 2] 3)
    have hO6 := (hO5.mono hgB.size).alloc (.cells #[.int .i64 1, .int .i64 2] 3)
    have hw5 := hbF.size
    clear hO5 hD5 hg5 K hD4 hgC
    go_wp2
    go_ret2
    exact ⟨xs, a6, c6, [1, 2], _, _, rfl, hx16, fun x hx => (hsm x hx).2.1, hO6.row.mono HB1.out.size, hO6.inn, hlit.mono hw5, by simp, hbG⟩
  | true =>
    go_wp2_with fail
    refine (pickD _ hD4 (by omega)).mono ?_
    rintro e w5 ⟨x, rfl, hx0, hx1, hD5, hg5⟩
    have hJ5 := hJ4.grown hg5 hgl
    have hI5 := hI4.grown hg5 hgl
    have hgC := grownBy_trans hgB hg5
    have hst := store_valid HVY.out
    clear hx1 hJ4 hI4 hD4 hg5 hgB
    by_cases x0 : x = 0
    · subst x0
      obtain ⟨M, hM⟩ : ∃ M, ys.length = M := ⟨_, rfl⟩
      obtain ⟨L, hL⟩ : ∃ L, is.length = L := ⟨_, rfl⟩
      rw [hM, hL]
      have HM := Lib.hid hM
      have HL := Lib.hid hL
      have hL64 : L ≤ 64 := by omega
      have HST := Lib.hid hst
      have hrow1 := Lib.hid (fun k (hk : (Value.slice a4 M c4).ownBlock = some k) => (hJ5.row.lt k (by rw [HM.out]; exact hk)).2)
      have hrow2 := Lib.hid (fun x (hx : x ∈ ys) k (hk : (Value.slice x.ad x.zs.length x.cp).ownBlock = some k) => ((hJ5.ins x hx).blk k hk).2)
      clear hM hL hst
      -- the copy of the ids
      have hW := Lib.hid hI5.wf
      have hE := OwnI.empty (w := w5) (B := w5.heap.size) (Nat.le_refl _)
      have fin : ∀ (aX : Option Addr) (cX : Nat) (W : World), OwnI W w5.heap.size aX cX is → Below w5.heap.size w5 W → Drawn w1 W w.heap.size w.heap.size (110 + 1000 + 1) ∧ OwnJ W w1.heap.size a4 c4 ys ∧ w1.grownBy W (some w.heap.size) := by
        intro aX cX W h1 h2
        exact ⟨hD5.step (row := none) (grownBy_of_below h2 _) (fun r e => by cases e), hJ5.below h2, grownBy_trans hgC (grownBy_of_below h2 _)⟩
      have FIN := Lib.hid fin
      clear fin
      cases a5 with
      | none =>
        obtain ⟨hi0, hc0⟩ := own_none hI5
        subst hi0 hc0
        obtain rfl : L = 0 := by have := HL.out; simpa using this.symm
        have hb6 : Below w5.heap.size w5 (w5.alloc (.cells #[] 3)) := (Below.refl _ _).alloc (Nat.le_refl _) _
        obtain ⟨hD6, hJ6, hgD⟩ := FIN.out _ _ _ hE hb6
        clear hI5
        go_wp2_with (at_builtin; refine wp_app_nil (zs := []) rfl _ _ rfl rfl hE rfl ?_)
        generalize hWW : w5.alloc (.cells #[] 3) = w6 at hE hb6 hD6 hJ6 hgD ⊢
        have hXge : w5.heap.size ≤ w6.heap.size := hb6.size
        clear hWW
        have hX6 := hE
        have K := l91Id_any _ _ w1 w6 _ hD6 (by omega) w1.heap.size hgl a4 M c4 ys hJ6.row HM.out (fun x hx => by have := HST.out.2.2.2.2 x hx; omega) (by have := HST.out.1; have := HM.out; omega)
        have hg5l : w.heap.size < w5.heap.size := by have := hgC.size; omega
        have hw5 := HB1.out.size
        have hw15 := hgC.size
        with_reducible refine K.mono ?_
        rintro e w7 ⟨id, rfl, hid0, hid1, hD7, hg7⟩
        have hX7 := hX6.grown hg7 hg5l
        have hJ7 := hJ6.grown hg7 hgl
        have hgE := grownBy_trans hgD hg7
        have hb7 := got_belowL HB1.out HZ.out hgE
        have hs67 := hg7.size
        have hs56 := hb6.size
        clear K hX6 hJ6 hD6 hD7 hg7 hgD hgC hgE hD5 hJ5
        go_wp2_with (at_builtin; refine wp_app rfl _ _ rfl rfl (hX7.alloc _) ⟨w7.heap.size, 0, none⟩ 1 1 [id] rfl rfl (cell_one_new _ _ _) (wf_one (by omega) (by omega)) (by simp) (by simp; omega) ?_; intro a8 c8 w8 hX8 hG8)
        have hJ8 := (hJ7.alloc (.cells #[.int .i64 id] 3)).apart hG8 (fun k hk r hr e => by have := hrow1.out k (by rw [HM.out] at hk; exact hk); have := (hX7.blk r hr).1; omega) (fun x hx k hk r hr e => by have := hrow2.out x hx k hk; have := (hX7.blk r hr).1; omega)
        have hb8 := (hb7.alloc hb7.size (.cells #[.int .i64 id] 3)).grown hG8 (by have := hb7.size; simp; omega) (fun r hr => by have := (hX7.blk r hr).1; omega)
        have hI8 := hX8.mono (show w.heap.size ≤ w5.heap.size by omega)
        clear hX7 hJ7 hX8 hG8 hb7
        go_ret2
        exact ⟨ys, a4, c4, [] ++ [id], a8, c8, by rw [HM.out]; rfl, HST.out.1, HST.out.2.2.2.1, hJ8.row.mono hw5, hJ8.inn, hI8, by simp, hb8⟩
      | some ad =>
        have hcl := (hI5.alloc (.cells #[] 3)).cells
        have HC := Lib.hid hcl
        clear hcl
        go_wp2_with (at_builtin; refine wp_app rfl _ _ rfl rfl hE ad L c5 is rfl HL.out HC.out hW.out (by simp <;> omega) (by simp) ?_; intro aX cX w6 hX6 hG6; rw [List.nil_append, HL.out]; rw [List.nil_append] at hX6)
        have hb6 : Below w5.heap.size w5 w6 := ((Below.refl _ _).alloc (Nat.le_refl _) _).grown hG6 (by simp) (by intro r hr; simp [Value.ownBlock] at hr; omega)
        obtain ⟨hD6, hJ6, hgD⟩ := FIN.out _ _ _ hX6 hb6
        clear hG6 hI5 hE
        have K := l91Id_any _ _ w1 w6 _ hD6 (by omega) w1.heap.size hgl a4 M c4 ys hJ6.row HM.out (fun x hx => by have := HST.out.2.2.2.2 x hx; omega) (by have := HST.out.1; have := HM.out; omega)
        have hg5l : w.heap.size < w5.heap.size := by have := hgC.size; omega
        have hw5 := HB1.out.size
        have hw15 := hgC.size
        with_reducible refine K.mono ?_
        rintro e w7 ⟨id, rfl, hid0, hid1, hD7, hg7⟩
        have hX7 := hX6.grown hg7 hg5l
        have hJ7 := hJ6.grown hg7 hgl
        have hgE := grownBy_trans hgD hg7
        have hb7 := got_belowL HB1.out HZ.out hgE
        have hs67 := hg7.size
        have hs56 := hb6.size
        clear K hX6 hJ6 hD6 hD7 hg7 hgD hgC hgE hD5 hJ5
        go_wp2_with (at_builtin; refine wp_app rfl _ _ rfl (by rw [HL.out]; rfl) (hX7.alloc _) ⟨w7.heap.size, 0, none⟩ 1 1 [id] rfl rfl (cell_one_new _ _ _) (wf_one (by omega) (by omega)) (by rw [HL.out]; omega) (by simp; omega) ?_; intro a8 c8 w8 hX8 hG8)
        have hJ8 := (hJ7.alloc (.cells #[.int .i64 id] 3)).apart hG8 (fun k hk r hr e => by have := hrow1.out k (by rw [HM.out] at hk; exact hk); have := (hX7.blk r hr).1; omega) (fun x hx k hk r hr e => by have := hrow2.out x hx k hk; have := (hX7.blk r hr).1; omega)
        have hb8 := (hb7.alloc hb7.size (.cells #[.int .i64 id] 3)).grown hG8 (by have := hb7.size; simp; omega) (fun r hr => by have := (hX7.blk r hr).1; omega)
        have hI8 := hX8.mono (show w.heap.size ≤ w5.heap.size by omega)
        clear hX7 hJ7 hX8 hG8 hb7
        go_ret2
        exact ⟨ys, a4, c4, is ++ [id], a8, c8, by rw [HM.out, List.length_append]; rfl, HST.out.1, HST.out.2.2.2.1, hJ8.row.mono hw5, hJ8.inn, hI8, by rw [List.length_append, HL.out]; simp; omega, hb8⟩
    · have hn0 : (x == 0) = false := by simp [x0]
      have hbF := got_belowL HB1.out HZ.out hgC
      clear hD5 hgC
      go_wp2
      go_ret2
      exact ⟨ys, a4, c4, is, a5, c5, rfl, hst.1, hst.2.2.2.1, hJ5.row.mono HB1.out.size, hJ5.inn, hI5.mono HB1.out.size, by omega, hbF⟩

end Go.Proofs.Ytkjimngpodhdbaa
