/- Contract of DrawChangesCount. -/
import Derived.Test.YtdjpaibjelfhnaaDrawTwo
import Derived.Test.YtdjpaibjelfhnaaChangesOf
namespace Go.Proofs.Ytdjpaibjelfhnaa
open Go.RowKit
set_option linter.unusedVariables false

/-- Changes were drawn into new memory. -/
def GotG (w : World) (e : Ending) (w' : World) : Prop :=
  ∃ cs a c L, e = .returned (.slice a L c) ∧ cs.length = L ∧ L ≤ 100 ∧ OwnR eltG w' w.heap.size a c cs ∧ Below w.heap.size w w'

theorem got_belowG {w w1 w2 : World} (hb : Below w.heap.size w w1) (hs : w1.heap.size = w.heap.size + 1) (hg : w1.grownBy w2 (some w.heap.size)) : Below w.heap.size w w2 :=
  ⟨hg.os.trans hb.os, hg.tape.trans hb.tape, hg.output.trans hb.output, Nat.le_trans hb.size hg.size, fun k hk => (hg.block k (by omega) (fun e => by injection e with e; omega)).trans (hb.block k hk)⟩

theorem kindV (w : World) (x : Int) (h0 : 0 ≤ x) (h1 : x < 2) : ∃ y : Int, (w.alloc (.cells #[.int .i64 0, .int .i64 4] 3)).cell? ⟨w.heap.size, x.toNat, none⟩ = some (.int .i64 y) := by
  rw [cell_of_row _ w.heap.size _ _ _ (0, 0) (heap_alloc_new w _)]
  obtain rfl | rfl : x = 0 ∨ x = 1 := by omega
  all_goals exact ⟨_, rfl⟩

set_option maxHeartbeats 2000000 in
theorem DrawChangesCount_any (a : Option Addr) (n c : Nat) (w : World) (h : RdC w a n) (hc : n ≤ c) (hn : n ≤ 1048576) :
    Calls Try.prog 22 #[.slice a n c] w (GotG w) := by
  go_enter Try.func22, Try.ntmps22
  go_wp2_with fail
  with_reducible refine (l6Open_any a n c _ h hc hn).mono ?_
  rintro e w1 ⟨rfl, hR, hb1, hsz⟩
  have HS := Lib.hid hsz
  clear hsz h
  go_wp2_with fail
  with_reducible refine (l92Two_any _ _ _ _ _ (Drawn.start hR) (by omega)).mono ?_
  rintro e w2 ⟨xs, a2, c2, m, ys, a3, c3, m2, rfl, hxl, hyl, hx9, hy9, hX, hY, hD, hg⟩
  have hlt : w.heap.size < w1.heap.size := by rw [HS.out]; omega
  have K := ChangesOf_any a2 m c2 xs a3 m2 c3 ys w1.heap.size w2 (hX.rd hxl) hX.ins hX.sm (hY.rd hyl) hY.ins hY.sm (by omega) (by omega)
  clear hR hxl hyl hX hY
  go_wp2_with fail
  with_reducible refine K.mono ?_
  rintro e w3 ⟨cs, a4, c4, L, v, rfl, hL, hC⟩
  have hD3 := hD.step (row := none) (grownBy_of_below hC.bel _) (fun r e => by cases e)
  have hO := hC.own.mono hg.size
  have hcl := hC.len
  clear K hD hC
  by_cases hL0 : L = 0
  · subst hL0
    have hb2 := got_belowG hb1 HS.out hD3.2
    go_wp2
    go_ret
    exact ⟨cs, a4, c4, 0, rfl, hcl, by omega, hO.mono hb1.size, hb2⟩
  · have hLz : (0 : Int) < (L : Int) := by omega
    have hLp : 0 < L := by omega
    go_wp2_with fail
    refine (pickD _ hD3 (by omega)).mono ?_
    rintro e w4 ⟨x, rfl, hx0, hx1, hD4, hg4⟩
    have hO4 := hO.grown hg4 hlt
    clear hx0 hx1 hg4 hO hD3
    by_cases x0 : x = 0
    · subst x0
      go_wp2_with fail
      refine (pickD _ hD4 (by omega)).mono ?_
      rintro e w5 ⟨y, rfl, hy0, hy1, hD5, hg5⟩
      have hO5 := hO4.grown hg5 hlt
      have hy2 := hy1 (by omega)
      clear hy1 hg5 hO4 hD4
      obtain ⟨y, rfl⟩ := Int.eq_ofNat_of_zero_le hy0
      have hyL : y < L := by omega
      go_wp2_with fail
      refine (pickD _ (hD5.alloc (.cells #[.int .i64 0, .int .i64 4] 3)) (by omega)).mono ?_
      rintro e w6 ⟨z, rfl, hz0, hz1, hD6, hg6⟩
      have hO6 := (hO5.alloc (.cells #[.int .i64 0, .int .i64 4] 3)).grown hg6 hlt
      have hz2 := hz1 (by omega)
      obtain ⟨v, hv⟩ := kindV w5 z hz0 hz2
      have hv6 := hg6.cell hv (by have := hD5.lt; intro h; injection h with h; simp only at h; omega)
      clear hz1 hg6 hO5 hD5 hv
      obtain ⟨gg, rfl, hBg, hgg⟩ := hO6.head (by omega)
      obtain ⟨x, hx⟩ : ∃ x, cs[y]? = some x := ⟨_, List.getElem?_eq_getElem (by omega)⟩
      obtain ⟨⟨c0, _, _, _⟩, f0, _, _, _⟩ := cellsG hO6 hx
      have hset := hO6.set1 y x ⟨v, x.pa, x.dr, x.ad, x.cp, x.zs⟩ hx 0 (.int .i64 v) (by decide) rfl
      have HT := Lib.hid (hset.1.mono hb1.size)
      have hD7 := hD6.step hset.2 (fun r e => by injection e; omega)
      have HL : Hid ((cs.set y ⟨v, x.pa, x.dr, x.ad, x.cp, x.zs⟩).length = L) := Lib.hid (by rw [List.length_set, hcl])
      have hb2 := got_belowG hb1 HS.out hD7.2
      clear hset hO6 hD6 hx hD7
      go_wp2
      go_ret
      exact ⟨_, _, c4, L, rfl, HL.out, by omega, HT.out, hb2⟩
    · have hn0 : (x == 0) = false := by simp [x0]
      have hb2 := got_belowG hb1 HS.out hD4.2
      go_wp2
      go_ret
      exact ⟨cs, a4, c4, L, rfl, hcl, by omega, hO4.mono hb1.size, hb2⟩

end Go.Proofs.Ytdjpaibjelfhnaa
