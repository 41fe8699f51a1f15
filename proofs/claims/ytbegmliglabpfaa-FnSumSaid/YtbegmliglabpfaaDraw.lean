/- Contracts of the draws of blocks and files: they hand back some ints in new memory. -/
import Derived.Test.YtbegmliglabpfaaCommon
import Derived.Test.YtbegmliglabpfaaPick
import Derived.Test.YtbegmliglabpfaaApp
import Derived.Maps.AppendAt
namespace Go.Proofs.Ytbegmliglabpfaa
open Go.RowKit

/-- The state of a draw: the reader has gone on by at most lim numbers; only it, and what is new, has changed. -/
def Drawn (w wr : World) (B g : Nat) (lim : Int) : Prop := (∃ q : Int, q ≤ lim ∧ Rdr wr B g q) ∧ w.grownBy wr (some g)

theorem Rdr.lt {w : World} {B g : Nat} {p : Int} (h : Rdr w B g p) : g < w.heap.size := by
  obtain ⟨_, _, a, n, c, _, hh, _⟩ := h
  exact (Array.getElem?_eq_some_iff.1 hh).1

theorem grownBy_trans {a b c : World} {row : Option Nat} (h : a.grownBy b row) (k : b.grownBy c row) : a.grownBy c row :=
  ⟨k.os.trans h.os, k.tape.trans h.tape, k.output.trans h.output, Nat.le_trans h.size k.size, fun i hi hn => (k.block i (Nat.lt_of_lt_of_le hi h.size) hn).trans (h.block i hi hn)⟩

theorem grownBy_of_below {a b : World} (h : Below a.heap.size a b) (row : Option Nat) : a.grownBy b row := ⟨h.os, h.tape, h.output, h.size, fun i hi _ => h.block i hi⟩

theorem Rdr.grown {w w' : World} {B g : Nat} {p : Int} (h : Rdr w B g p) {row : Option Nat} (hg : w.grownBy w' row) (hr : ∀ r, row = some r → g < r) : Rdr w' B g p := by
  have hlt := h.lt
  obtain ⟨hB, h0, a, n, c, hn, hh, hb⟩ := h
  refine ⟨hB, h0, a, n, c, hn, (hg.block g hlt (fun e => by have := hr g e.symm; omega)).trans hh, ?_⟩
  intro i hi
  obtain ⟨b, off, rfl, hlt', hc⟩ := hb i hi
  refine ⟨b, off, rfl, hlt', fun j hj => ?_⟩
  obtain ⟨y, h1, h2, h3⟩ := hc j hj
  exact ⟨y, h1, h2, hg.cell h3 (fun e => by have := hr b e.symm; omega)⟩

/-- A list of ints was drawn, of at most m numbers. -/
def DrewI (w : World) (B g : Nat) (p : Int) (m : Nat) (e : Ending) (w' : World) : Prop :=
  ∃ zs a c, e = .returned (.slice a zs.length c) ∧ zs.length ≤ m ∧ OwnI w' w.heap.size a c zs ∧ Drawn w w' B g (p + 1000)

/-- A number was drawn in the middle of a draw. -/
def PickD (w wr : World) (B g : Nat) (lim n : Int) (e : Ending) (w1 : World) : Prop :=
  ∃ x : Int, e = .returned (.int .i64 x) ∧ 0 ≤ x ∧ (1 ≤ n → x < n) ∧ Drawn w w1 B g (lim + 1) ∧ wr.grownBy w1 (some g)

theorem Drawn.start {w : World} {B g : Nat} {p : Int} (h : Rdr w B g p) : Drawn w w B g p := ⟨⟨p, Int.le_refl _, h⟩, World.grownBy.refl _ _⟩
theorem Drawn.lt {w wr : World} {B g : Nat} {lim : Int} (h : Drawn w wr B g lim) : g < wr.heap.size := by obtain ⟨⟨q, _, hr⟩, _⟩ := h; exact hr.lt
theorem Drawn.step {w wr w1 : World} {B g : Nat} {lim : Int} (h : Drawn w wr B g lim) {row : Option Nat} (hg : wr.grownBy w1 row) (hr : ∀ r, row = some r → g < r ∧ w.heap.size ≤ r) : Drawn w w1 B g lim := by
  obtain ⟨⟨q, hq, hrd⟩, h2⟩ := h
  refine ⟨⟨q, hq, hrd.grown hg (fun r e => (hr r e).1)⟩, ⟨hg.os.trans h2.os, hg.tape.trans h2.tape, hg.output.trans h2.output, Nat.le_trans h2.size hg.size, fun k hk hn => ?_⟩⟩
  exact (hg.block k (Nat.lt_of_lt_of_le hk h2.size) (fun e => by have := (hr k e.symm).2; omega)).trans (h2.block k hk hn)
theorem Drawn.alloc {w wr : World} {B g : Nat} {lim : Int} (h : Drawn w wr B g lim) (o : Obj) : Drawn w (wr.alloc o) B g lim := h.step (World.grownBy_alloc wr o none) (fun r e => by cases e)
theorem Drawn.le {w wr : World} {B g : Nat} {lim lim' : Int} (h : Drawn w wr B g lim) (hl : lim ≤ lim') : Drawn w wr B g lim' := by
  obtain ⟨⟨q, hq, hrd⟩, h2⟩ := h
  exact ⟨⟨q, Int.le_trans hq hl, hrd⟩, h2⟩

theorem pickD {w wr : World} {B g : Nat} {lim : Int} (n : Int) (h : Drawn w wr B g lim) (hl : lim ≤ 1000000000000) :
    Calls Try.prog 48 #[.pointer (some ⟨g, 0, none⟩), .int .i64 n] wr (PickD w wr B g lim n) := by
  obtain ⟨⟨q, hq, hrd⟩, h2⟩ := h
  refine (pick_any B g q n wr hrd (by omega)).mono ?_
  rintro e w1 ⟨x, rfl, h0, h1, hr1, hg1⟩
  exact ⟨x, rfl, h0, h1, ⟨⟨q + 1, by omega, hr1⟩, grownBy_trans h2 hg1⟩, hg1⟩

theorem news8 (w : World) : ∀ j u, (([1, 2, 3, 4, 5, 6, 7, 8] : List Int).map (Value.int .i64))[j]? = some u →
    (w.alloc (.cells #[.int .i64 1, .int .i64 2, .int .i64 3, .int .i64 4, .int .i64 5, .int .i64 6, .int .i64 7, .int .i64 8] 3)).cell? ((⟨w.heap.size, 0, none⟩ : Addr).add j) = some u :=
  fun j u hj => cells_new w (([1, 2, 3, 4, 5, 6, 7, 8] : List Int).map (Value.int .i64)) 3 j u hj
theorem wf8 : WfI [1, 2, 3, 4, 5, 6, 7, 8] := by
  intro z hz
  simp at hz
  omega

set_option maxHeartbeats 2000000 in
theorem l91Block_any (B g : Nat) (p : Int) (w : World) (hr : Rdr w B g p) (hp : p ≤ 1000000000) :
    Calls Try.prog 41 #[.pointer (some ⟨g, 0, none⟩)] w (DrewI w B g p 20) := by
  have hgl := hr.lt
  go_enter Try.func41, Try.ntmps41
  go_wp2_with fail
  have hD := (Drawn.start hr).alloc (.cells #[] 3)
  have hO : OwnI (w.alloc (.cells #[] 3)) w.heap.size (some ⟨w.heap.size, 0, none⟩) 0 [] := OwnI.empty (Nat.le_refl _)
  refine (pickD _ hD (by omega)).mono ?_
  rintro e w1 ⟨x, rfl, hx0, hx1, hD1, hg1⟩
  have hO1 := hO.grown hg1 hgl
  have hx2 := hx1 (by omega)
  clear hO hD hg1 hx1 hr
  go_wp2_with fail
  go_loopw [3, 5] (fun v i wr => ∃ k : Nat, (k : Int) ≤ 1 + x ∧ i = .int .i64 k ∧ ∃ zs a c, v = .slice a zs.length c ∧ zs.length ≤ k ∧ k ≤ zs.length ∧ OwnI wr w.heap.size a c zs ∧ Drawn w wr B g (p + 1 + 4 * k))
    (fun _ i _ => (1 + x - intOf i).toNat)
  case atStart => exact ⟨0, by omega, rfl, [], _, _, rfl, Nat.le_refl _, Nat.le_refl _, hO1, by simpa using hD1⟩
  case round =>
    clear hO1 hD1
    obtain ⟨k, hk, rfl, zs, a, c, rfl, hz, hz', hO, hD⟩ := hrel
    by_cases hlt : (k : Int) < 1 + x
    · by_cases hk0 : k = 0
      · subst hk0
        go_wp2_with fail
        refine (pickD _ hD (by omega)).mono ?_
        rintro e wA ⟨xA, rfl, xA0, xA1, hDA, hGA⟩
        have xA2 := xA1 (by omega)
        have hOA := hO.grown hGA hgl
        clear xA1
        clear hGA hO hD
        go_wp2_with fail
        refine (pickD _ hDA (by omega)).mono ?_
        rintro e wB ⟨xB, rfl, xB0, xB1, hDB, hGB⟩
        have xB2 := xB1 (by omega)
        have hOB := hOA.grown hGB hgl
        clear xB1
        clear hGB hOA hDA
        go_wp2_with fail
        have hOb := hOB.alloc (.cells #[.int .i64 xA, .int .i64 xB] 3)
        refine (pickD _ (hDB.alloc _) (by omega)).mono ?_
        rintro e wC ⟨xC, rfl, xC0, xC1, hDC, hGC⟩
        have xC2 := xC1 (by omega)
        have hOC := hOb.grown hGC hgl
        clear xC1
        obtain ⟨y, hcell, y0, y1⟩ : ∃ y : Int, wC.cell? ⟨wB.heap.size, xC.toNat, none⟩ = some (.int .i64 y) ∧ 0 ≤ y ∧ y ≤ 255 := by
          have hne : some wB.heap.size ≠ some g := by have := hDB.lt; intro e; injection e; omega
          obtain rfl | rfl : xC = 0 ∨ xC = 1 := by omega
          · exact ⟨xA, hGC.cell (World.cell?_alloc_at_two wB xA xB 3).1 hne, by omega, by omega⟩
          · exact ⟨xB, hGC.cell (World.cell?_alloc_at_two wB xA xB 3).2 hne, by omega, by omega⟩
        have hsz : w.heap.size ≤ wC.heap.size := hDC.2.size
        clear hGC hOb hOB hDB
        go_wp2_with (at_builtin; refine wp_app rfl _ _ rfl rfl (hOC.alloc _) ⟨wC.heap.size, 0, none⟩ 1 1 [y] rfl rfl (cell_one_new _ _ _) (wf_one (by omega) (by omega)) (by omega) (by simp; omega) ?_; intro a2 c2 w2 hO2 hG2)
        have hD2 : Drawn w w2 B g (p + 1 + 4 * ((0 + 1 : Nat) : Int)) := (hDC.alloc _).step hG2 (own_row hOC hgl) |>.le (by omega)
        clear hG2 hDC hOC
        go_roundw
        case rel => exact ⟨0 + 1, by omega, by go_num, _, _, _, by simp, by rw [List.length_append, List.length_singleton]; omega, by rw [List.length_append, List.length_singleton]; omega, hO2, hD2⟩
        case measure => simp [intOf]; omega
      · have hk1 : (0 : Int) < (k : Int) := by omega
        go_wp2_with fail
        refine (pickD _ hD (by omega)).mono ?_
        rintro e wA ⟨xA, rfl, xA0, xA1, hDA, hGA⟩
        have xA2 := xA1 (by omega)
        have hOA := hO.grown hGA hgl
        clear xA1
        have hlen0 : 0 < zs.length := by omega
        obtain ⟨bz, offz, rfl, hlz, hcz⟩ := hOA.rd.2 0 hlen0
        clear hGA hO hD
        by_cases hxA : xA = 0
        · subst hxA
          obtain ⟨kk, rfl⟩ : ∃ kk, k = kk + 1 := ⟨k - 1, by omega⟩
          have hcell := hcz kk (by omega)
          have hyw := hOA.1.at_ (i := kk) (by omega)
          obtain ⟨y, hy⟩ : ∃ y, y = zs.getD kk 0 := ⟨_, rfl⟩
          rw [← hy] at hcell hyw
          obtain ⟨y0, y1⟩ := hyw
          have hsz : w.heap.size ≤ wA.heap.size := hDA.2.size
          clear hy hcz
          go_wp2_with (at_builtin; refine wp_app rfl _ _ rfl rfl (hOA.alloc _) ⟨wA.heap.size, 0, none⟩ 1 1 [y] rfl rfl (cell_one_new _ _ _) (wf_one (by omega) (by omega)) (by omega) (by simp; omega) ?_; intro a2 c2 w2 hO2 hG2)
          have hD2 : Drawn w w2 B g (p + 1 + 4 * ((kk + 1 + 1 : Nat) : Int)) := (hDA.alloc _).step hG2 (own_row hOA hgl) |>.le (by omega)
          clear hG2 hDA hOA
          go_roundw
          case rel => exact ⟨kk + 1 + 1, by omega, by go_num, _, _, _, by simp, by rw [List.length_append, List.length_singleton]; omega, by rw [List.length_append, List.length_singleton]; omega, hO2, hD2⟩
          case measure => simp [intOf]; omega
        · have hx1 : (xA == 0) = false := by simp [hxA]
          go_wp2_with fail
          refine (pickD _ hDA (by omega)).mono ?_
          rintro e wD ⟨xD, rfl, xD0, xD1, hDD, hGD⟩
          have xD2 := xD1 (by omega)
          have hOD := hOA.grown hGD hgl
          clear xD1
          clear hGD hOA hDA
          go_wp2_with fail
          refine (pickD _ hDD (by omega)).mono ?_
          rintro e wE ⟨xE, rfl, xE0, xE1, hDE, hGE⟩
          have xE2 := xE1 (by omega)
          have hOE := hOD.grown hGE hgl
          clear xE1
          clear hGE hOD hDD
          go_wp2_with fail
          have hOb := hOE.alloc (.cells #[.int .i64 xD, .int .i64 xE] 3)
          refine (pickD _ (hDE.alloc _) (by omega)).mono ?_
          rintro e wF ⟨xF, rfl, xF0, xF1, hDF, hGF⟩
          have xF2 := xF1 (by omega)
          have hOF := hOb.grown hGF hgl
          clear xF1
          obtain ⟨y, hcell, y0, y1⟩ : ∃ y : Int, wF.cell? ⟨wE.heap.size, xF.toNat, none⟩ = some (.int .i64 y) ∧ 0 ≤ y ∧ y ≤ 255 := by
            have hne : some wE.heap.size ≠ some g := by have := hDE.lt; intro e; injection e; omega
            obtain rfl | rfl : xF = 0 ∨ xF = 1 := by omega
            · exact ⟨xD, hGF.cell (World.cell?_alloc_at_two wE xD xE 3).1 hne, by omega, by omega⟩
            · exact ⟨xE, hGF.cell (World.cell?_alloc_at_two wE xD xE 3).2 hne, by omega, by omega⟩
          have hsz : w.heap.size ≤ wF.heap.size := hDF.2.size
          clear hGF hOb hOE hDE
          go_wp2_with (at_builtin; refine wp_app rfl _ _ rfl rfl (hOF.alloc _) ⟨wF.heap.size, 0, none⟩ 1 1 [y] rfl rfl (cell_one_new _ _ _) (wf_one (by omega) (by omega)) (by omega) (by simp; omega) ?_; intro a2 c2 w2 hO2 hG2)
          have hD2 : Drawn w w2 B g (p + 1 + 4 * ((k + 1 : Nat) : Int)) := (hDF.alloc _).step hG2 (own_row hOF hgl) |>.le (by omega)
          clear hG2 hDF hOF
          go_roundw
          case rel => exact ⟨k + 1, by omega, by go_num, _, _, _, by simp, by rw [List.length_append, List.length_singleton]; omega, by rw [List.length_append, List.length_singleton]; omega, hO2, hD2⟩
          case measure => simp [intOf]; omega
    · have hkx : (k : Int) = 1 + x := by omega
      have h0 : 0 < zs.length := by omega
      obtain ⟨gg, rfl, hBg, hgg⟩ := hO.head h0
      have HK := Lib.hid hkx
      clear hkx
      go_wp2_with fail
      refine (pickD _ hD (by omega)).mono ?_
      rintro e wS ⟨xS, rfl, xS0, xS1, hDS, hGS⟩
      have xS2 := xS1 (by omega)
      have hOS := hO.grown hGS hgl
      clear xS1
      clear hGS hO hD
      by_cases hs0 : xS = 0
      · subst hs0
        go_wp2_with fail
        refine (pickD _ hDS (by omega)).mono ?_
        rintro e wN ⟨xN, rfl, xN0, xN1, hDN, hGN⟩
        have xN2 := xN1 (by omega)
        have hON := hOS.grown hGN hgl
        clear xN1
        clear hOS hDS hGN
        go_wp2_with fail
        have hOb := hON.alloc (.cells #[.int .i64 (-1), .int .i64 256] 3)
        refine (pickD _ (hDN.alloc _) (by omega)).mono ?_
        rintro e wM ⟨xM, rfl, xM0, xM1, hDM, hGM⟩
        have xM2 := xM1 (by omega)
        have hOM := hOb.grown hGM hgl
        clear xM1
        obtain ⟨y, hcell, y0, y1⟩ : ∃ y : Int, wM.cell? ⟨wN.heap.size, xM.toNat, none⟩ = some (.int .i64 y) ∧ -1 ≤ y ∧ y ≤ 256 := by
          have hne : some wN.heap.size ≠ some g := by have := hDN.lt; intro e; injection e; omega
          obtain rfl | rfl : xM = 0 ∨ xM = 1 := by omega
          · exact ⟨-1, hGM.cell (World.cell?_alloc_at_two wN (-1) 256 3).1 hne, by omega, by omega⟩
          · exact ⟨256, hGM.cell (World.cell?_alloc_at_two wN (-1) 256 3).2 hne, by omega, by omega⟩
        clear hGM hOb hON hDN
        have hset := hOM.set xN.toNat y (by omega) (by omega)
        have hxk : xN < (zs.length : Int) := by have := HK.out; omega
        have hold := hOM.2.cellAt xN.toNat (by omega)
        rw [getElem?_ints zs xN.toNat (by omega)] at hold
        have hfr := hOM.2.frozenAt xN.toNat
        have HS := Lib.hid hset
        have hD2 := hDM.step hset.2 (fun r e => by injection e; omega)
        clear hset hOM hDM
        go_wp2
        go_ret
        exact ⟨zs.set xN.toNat y, _, _, by simp, by simp; omega, HS.out.1, hD2.le (by omega)⟩
      · have hn0 : (xS == 0) = false := by simp [hs0]
        by_cases hs1 : xS = 1
        · subst hs1
          have HN8 := Lib.hid (news8 wS)
          have HW8 := Lib.hid wf8
          go_wp2_with (at_builtin; refine wp_app rfl _ _ rfl rfl (hOS.alloc _) ⟨wS.heap.size, 0, none⟩ 8 8 [1, 2, 3, 4, 5, 6, 7, 8] rfl rfl HN8.out HW8.out (by omega) (by have := hDS.2.size; simp; omega) ?_; intro a2 c2 w2 hO2 hG2)
          have hD2 := (hDS.alloc _).step hG2 (own_row hOS hgl)
          have hgc := hO2.cap.1
          have hlen2 : (zs ++ [1, 2, 3, 4, 5, 6, 7, 8]).length = zs.length + 8 := by simp
          rw [hlen2] at hgc
          obtain ⟨g2, rfl, hBg2, hgg2⟩ := hO2.head (by rw [hlen2]; omega)
          have HO2 := Lib.hid hO2
          clear hG2 hDS hOS hlen2
          refine (pickD _ hD2 (by omega)).mono ?_
          rintro e wT ⟨xT, rfl, xT0, xT1, hDT, hGT⟩
          have xT2 := xT1 (by omega)
          clear xT1
          have hOT := HO2.out.grown hGT hgl
          obtain rfl | rfl : xT = 0 ∨ xT = 1 := by omega
          all_goals
            have HOT := Lib.hid (hOT.take (m := 8) (by simp) (by simp))
            have HOT' := Lib.hid (hOT.take (m := 9) (by simp; omega) (by simp))
            clear hOT hO2
            go_wp2
            go_ret
          · have e8 : ((zs ++ [1, 2, 3, 4, 5, 6, 7, 8]).take 8).length = 8 := by simp
            exact ⟨(zs ++ [1, 2, 3, 4, 5, 6, 7, 8]).take 8, some ⟨g2, 0, none⟩, c2, by rw [e8]; rfl, by omega, HOT.out, hDT.le (by omega)⟩
          · have e9 : ((zs ++ [1, 2, 3, 4, 5, 6, 7, 8]).take 9).length = 9 := by simp; omega
            exact ⟨(zs ++ [1, 2, 3, 4, 5, 6, 7, 8]).take 9, some ⟨g2, 0, none⟩, c2, by rw [e9]; rfl, by omega, HOT'.out, hDT.le (by omega)⟩
        · have hn1 : (xS == 1) = false := by simp [hs1]
          by_cases hs2 : xS = 2
          · subst hs2
            go_wp2
            go_ret
            exact ⟨[], _, _, rfl, by simp, OwnI.empty hDS.2.size, (hDS.alloc _).le (by omega)⟩
          · have hn2 : (xS == 2) = false := by simp [hs2]
            go_wp2
            go_ret
            exact ⟨zs, some ⟨gg, 0, none⟩, _, rfl, by omega, hOS, hDS.le (by omega)⟩

end Go.Proofs.Ytbegmliglabpfaa
