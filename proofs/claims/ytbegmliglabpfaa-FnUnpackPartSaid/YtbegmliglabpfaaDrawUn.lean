/- Contract of spec.DrawBlockUnpack. -/
import Derived.Test.YtbegmliglabpfaaDrawI
import Derived.Test.YtbegmliglabpfaaPackSpec
namespace Go.Proofs.Ytbegmliglabpfaa
open Go.RowKit
set_option linter.unusedVariables false

theorem packR_le16 (zs : List Int) : (packR zs).length ≤ 16 ∧ (blockV zs = true → 0 < (packR zs).length) := by
  unfold packR
  split
  · rename_i h
    have h1 := flatP_length (runsP zs)
    have h2 := runsP_le zs
    obtain ⟨_, h3, h4⟩ := blockV_parts h
    have h5 := runsP_pos (zs := zs) (k := zs.length - 1) (by omega)
    rw [List.take_of_length_le (by omega)] at h5
    unfold packL
    omega
  · rename_i h; exact ⟨by simp, fun h' => absurd h' h⟩

theorem own_lit1 (w : World) (B : Nat) (hB : B ≤ w.heap.size) (y : Int) (h0 : -9223372036854775808 ≤ y) (h1 : y ≤ 9223372036854775807) :
    OwnI (w.alloc (.cells #[.int .i64 y] 3)) B (some ⟨w.heap.size, 0, none⟩) 1 [y] := by
  refine ⟨wf_one h0 h1, ?_⟩
  have := World.ownsRow_lit (e := 3) (size := 1) (base := B) w #[.int .i64 y] 1 hB (by unfold maxLen; omega) rfl
  simpa using this

set_option maxHeartbeats 1000000 in
theorem DrawBlockUnpack_any (a : Option Addr) (n c : Nat) (w : World) (h : RdC w a n) (hc : n ≤ c) (hn : n ≤ 1048576) :
    Calls Try.prog 37 #[.slice a n c] w (GotI w 16) := by
  go_enter Try.func37, Try.ntmps37
  go_wp2_with fail
  with_reducible refine (l6Open_any a n c _ h hc hn).mono ?_
  rintro e w1 ⟨rfl, hR, hb1, hsz⟩
  have HS := Lib.hid hsz
  clear hsz
  go_wp2_with fail
  with_reducible refine (l91Block_any _ _ _ _ hR (by omega)).mono ?_
  rintro e w2 ⟨zs, a2, c2, rfl, hm, hO, hD⟩
  go_wp2_with fail
  with_reducible refine (specBlockPack_any a2 zs.length c2 zs _ hO.rd hO.wf (by omega)).mono ?_
  rintro e w3 ⟨a3, c3, rfl, hP, hb3⟩
  have hD3 : Drawn w1 w3 w.heap.size w.heap.size 1000 := (hD.le (by omega)).step (grownBy_of_below hb3 none) (fun r e => by cases e)
  have hpl := packR_le16 zs
  have hg1 : w.heap.size < w1.heap.size := by have := HS.out; omega
  have hP3 := hP.mono hD.2.size
  clear hO hD hR hb3 hP
  by_cases hv : blockV zs = true
  · have hp0 := hpl.2 hv
    have hp1 := hpl.1
    rw [hv]
    obtain ⟨qs, hqs⟩ : ∃ qs, qs = packR zs := ⟨_, rfl⟩
    rw [← hqs] at hP3 hp0 hp1 ⊢
    clear hpl hqs hv
    go_wp2_with fail
    refine (pickD _ hD3 (by omega)).mono ?_
    rintro e w4 ⟨x4, rfl, x40, x41, hD4, hG4⟩
    have x42 := x41 (by omega)
    have hP4 := hP3.grown hG4 hg1
    clear x41 hG4 hP3 hD3
    go_wp2_with fail
    refine (pickD _ hD4 (by omega)).mono ?_
    rintro e w5 ⟨x5, rfl, x50, x51, hD5, hG5⟩
    have x52 := x51 (by omega)
    have hP5 := hP4.grown hG5 hg1
    clear x51 hG5 hP4 hD4
    obtain ⟨gg, rfl, hBg, hgg⟩ := hP5.head hp0
    have hcap := hP5.cap.1
    by_cases hx0 : x5 = 0
    · subst hx0
      go_wp2_with fail
      refine (pickD _ hD5 (by omega)).mono ?_
      rintro e w6 ⟨x6, rfl, x60, x61, hD6, hG6⟩
      have x62 := x61 (by omega)
      have hP6 := hP5.grown hG6 hg1
      clear x61 hG6 hP5 hD5
      have hset := hP6.set x4.toNat x6 (by omega) (by omega)
      have hold := (hP6.2.cellAt x4.toNat (by omega)).trans (getElem?_ints qs x4.toNat (by omega))
      have hfr := hP6.2.frozenAt x4.toNat
      have HSET := Lib.hid hset.1
      have hb7 : Below w.heap.size w (w6.setCell ⟨gg, x4.toNat, none⟩ (.int .i64 x6)) := (gotI_below hb1 HS.out hD6.2).setCell (by show w.heap.size ≤ gg; omega) _
      clear hset hP6 hD6
      go_wp2
      go_ret
      exact ⟨qs.set x4.toNat x6, some ⟨gg, 0, none⟩, c3, by simp, by simp; omega, HSET.out.mono hb1.size, hb7⟩
    · have hn0 : (x5 == 0) = false := by simp [hx0]
      have hb5 := gotI_below hb1 HS.out hD5.2
      by_cases hx1 : x5 = 1
      · subst hx1
        obtain ⟨kk, rfl⟩ := Int.eq_ofNat_of_zero_le x40
        have HT := Lib.hid (hP5.take (m := kk) (by omega) hp0)
        have hlt : (qs.take kk).length = kk := by simp; omega
        have HLT := Lib.hid hlt
        clear hlt
        go_wp2
        go_ret
        exact ⟨qs.take kk, some ⟨gg, 0, none⟩, c3, by rw [HLT.out]; rfl, by rw [HLT.out]; omega, HT.out.mono hb1.size, hb5⟩
      · have hn1 : (x5 == 1) = false := by simp [hx1]
        go_wp2
        go_ret
        exact ⟨qs, some ⟨gg, 0, none⟩, c3, rfl, hp1, hP5.mono hb1.size, hb5⟩
  · have hv' : blockV zs = false := by simpa using hv
    rw [hv']
    have hb3 := gotI_below hb1 HS.out hD3.2
    clear hv hpl
    go_wp2
    go_ret
    exact ⟨[1], some ⟨w3.heap.size, 0, none⟩, 1, rfl, by simp, own_lit1 w3 _ hb3.size 1 (by omega) (by omega), hb3.alloc hb3.size _⟩

end Go.Proofs.Ytbegmliglabpfaa
