/- Contract of the draw of two trees. -/
import Derived.Test.YtdjpaibjelfhnaaDrawT2
import Derived.Test.YtdjpaibjelfhnaaTreeDrop
namespace Go.Proofs.Ytdjpaibjelfhnaa
open Go.RowKit
set_option linter.unusedVariables false

/-- Two trees were drawn. -/
def DrewTwo (w wr : World) (B g : Nat) (lim : Int) (e : Ending) (w' : World) : Prop :=
  ∃ xs a c n ys a' c' m, e = .returned (.tuple #[.slice a n c, .slice a' m c']) ∧ xs.length = n ∧ ys.length = m ∧ n ≤ 9 ∧ m ≤ 9 ∧ OwnT w' wr.heap.size a c xs ∧ OwnT w' wr.heap.size a' c' ys ∧ Drawn w w' B g lim ∧ wr.grownBy w' (some g)

/-- A tree that is being changed, above the world W0. -/
structure DW (w W0 : World) (B g : Nat) (lim : Int) (W : World) (a : Option Addr) (c L : Nat) (ys : List TV) : Prop where
  len : ys.length = L
  own : OwnT W W0.heap.size a c ys
  dr : Drawn w W B g lim
  g0 : W0.grownBy W (some g)
  lt : g < W0.heap.size
  le : w.heap.size ≤ W0.heap.size

theorem DW.pick {w W0 : World} {B g : Nat} {lim lim' : Int} {W W' : World} {a : Option Addr} {c L : Nat} {ys : List TV} (h : DW w W0 B g lim W a c L ys) (hD : Drawn w W' B g lim') (hg : W.grownBy W' (some g)) : DW w W0 B g lim' W' a c L ys :=
  ⟨h.len, h.own.grown hg h.lt, hD, grownBy_trans h.g0 hg, h.lt, h.le⟩
theorem DW.le' {w W0 : World} {B g : Nat} {lim lim' : Int} {W : World} {a : Option Addr} {c L : Nat} {ys : List TV} (h : DW w W0 B g lim W a c L ys) (hl : lim ≤ lim') : DW w W0 B g lim' W a c L ys :=
  ⟨h.len, h.own, h.dr.le hl, h.g0, h.lt, h.le⟩
theorem DW.below {w W0 : World} {B g : Nat} {lim : Int} {W W' : World} {a : Option Addr} {c L : Nat} {ys : List TV} (h : DW w W0 B g lim W a c L ys) (hb : Below W.heap.size W W') : DW w W0 B g lim W' a c L ys :=
  h.pick (h.dr.step (row := none) (grownBy_of_below hb _) (fun r e => by cases e)) (grownBy_of_below hb _)
theorem DW.alloc {w W0 : World} {B g : Nat} {lim : Int} {W : World} {a : Option Addr} {c L : Nat} {ys : List TV} (h : DW w W0 B g lim W a c L ys) (o : Obj) : DW w W0 B g lim (W.alloc o) a c L ys :=
  h.pick (h.dr.alloc o) (World.grownBy_alloc W o _)
theorem DW.new {w W0 : World} {B g : Nat} {lim : Int} {W W' : World} {a a' : Option Addr} {c c' L : Nat} {ys zs : List TV} (h : DW w W0 B g lim W a c L ys) (hb : Below W.heap.size W W') (ho : OwnT W' W.heap.size a' c' zs) : DW w W0 B g lim W' a' c' zs.length zs :=
  ⟨rfl, ho.mono h.g0.size, (h.below hb).dr, (h.below hb).g0, h.lt, h.le⟩

theorem DW.ids0 {w W0 : World} {B g : Nat} {lim : Int} {W : World} {gg c L : Nat} {ys : List TV} (h : DW w W0 B g lim W (some ⟨gg, 0, none⟩) c L ys) (hgg : W0.heap.size ≤ gg) {k : Nat} {x : TV} (hx : ys[k]? = some x) (v : Int) (hv : 0 ≤ v ∧ v ≤ 100) :
    DW w W0 B g lim ((W.alloc (.cells #[.int .i64 v] 3)).setCell ⟨gg, k * 3 + 2, none⟩ (.slice (some ⟨W.heap.size, 0, none⟩) 1 1)) (some ⟨gg, 0, none⟩) c L (ys.set k ⟨x.pa, x.dr, some ⟨W.heap.size, 0, none⟩, 1, [v]⟩) := by
  have hA := h.alloc (.cells #[.int .i64 v] 3)
  have hI : OwnI (W.alloc (.cells #[.int .i64 v] 3)) W0.heap.size (some ⟨W.heap.size, 0, none⟩) 1 [v] := (OwnI.litT W [v] (by intro z hz; simp only [List.mem_singleton] at hz; omega) (by simp)).mono h.g0.size
  have hset := hA.own.row.set1 k x ⟨x.pa, x.dr, some ⟨W.heap.size, 0, none⟩, 1, [v]⟩ hx 2 (.slice (some ⟨W.heap.size, 0, none⟩) 1 1) (by decide) rfl
  have hlt := h.lt
  have hle := h.le
  obtain ⟨cs, fz, hrow⟩ := hA.own.row.kindR gg rfl
  refine ⟨by rw [List.length_set, h.len], ⟨hset.1, fun z hz => ?_, fun z hz => ?_⟩, hA.dr.step hset.2 (fun r e => by injection e with e; omega), ?_, hlt, hle⟩
  · rcases List.mem_or_eq_of_mem_set hz with hz | rfl
    · exact (hA.own.ins z hz).apartB hrow (by decide) _ _
    · exact hI.apartB hrow (by decide) _ _
  · rcases List.mem_or_eq_of_mem_set hz with hz | rfl
    · exact hA.own.sm z hz
    · exact ⟨(hA.own.sm x (List.mem_of_getElem? hx)).1, by simp⟩
  · refine ⟨hset.2.os.trans hA.g0.os, hset.2.tape.trans hA.g0.tape, hset.2.output.trans hA.g0.output, Nat.le_trans hA.g0.size hset.2.size, fun j hj hn => ?_⟩
    exact (hset.2.block j (Nat.lt_of_lt_of_le hj hA.g0.size) (fun e => by injection e with e; omega)).trans (hA.g0.block j hj hn)

theorem DW.ids {w W0 : World} {B g : Nat} {lim : Int} {W : World} {gg c L : Nat} {ys : List TV} (h : DW w W0 B g lim W (some ⟨gg, 0, none⟩) c L ys) (hgg : W0.heap.size ≤ gg) {k : Nat} {x : TV} (hx : ys[k]? = some x) (v : Int) (hv : 0 ≤ v ∧ v ≤ 100) (hgl : gg < W.heap.size) :
    DW w W0 B g lim ((W.setCell ⟨gg, k * 3 + 2, none⟩ (.slice (some ⟨W.heap.size, 0, none⟩) 1 1)).alloc (.cells #[.int .i64 v] 3)) (some ⟨gg, 0, none⟩) c L (ys.set k ⟨x.pa, x.dr, some ⟨W.heap.size, 0, none⟩, 1, [v]⟩) := by
  rw [← World.setCell_alloc_past _ _ _ _ hgl]
  exact h.ids0 hgg hx v hv

set_option maxHeartbeats 4000000 in
theorem l92Two_any (B g : Nat) (w w0 : World) (lim : Int) (h : Drawn w w0 B g lim) (hl : lim ≤ 100000000) :
    Calls Try.prog 36 #[.pointer (some ⟨g, 0, none⟩)] w0 (DrewTwo w w0 B g (lim + 200)) := by
  have hlt := h.lt
  have hle := h.2.size
  go_enter Try.func36, Try.ntmps36
  go_wp2_with fail
  with_reducible refine (l91Tree_any B g w w0 lim h (by omega)).mono ?_
  rintro e w1 ⟨xs, a, c, rfl, hx9, hT1, hD1, hg1⟩
  clear h
  obtain ⟨n, hn⟩ : ∃ n, xs.length = n := ⟨_, rfl⟩
  rw [hn] at hx9 ⊢
  go_wp2_with fail
  refine (pickD _ hD1 (by omega)).mono ?_
  rintro e w2 ⟨t, rfl, t0, t1, hD2, hg2⟩
  have hT2 := hT1.grown hg2 hlt
  have hg02 := grownBy_trans hg1 hg2
  clear hT1 hD1 hg1 hg2 t1
  by_cases ht : t = 0
  · subst ht
    go_wp2_with fail
    with_reducible refine (l91Tree_any B g w w2 _ hD2 (by omega)).mono ?_
    rintro e w3 ⟨ys, a3, c3, rfl, hy9, hT3, hD3, hg3⟩
    have hT23 := hT2.grown hg3 hlt
    have hg03 := grownBy_trans hg02 hg3
    go_wp2
    go_ret2
    exact ⟨xs, a, c, n, ys, a3, c3, _, rfl, hn, rfl, hx9, hy9, hT23, hT3.mono hg02.size, hD3.le (by omega), hg03⟩
  · have ht0 : (t == 0) = false := by simp [ht]
    have K := l5All_any a n c xs w0.heap.size w2 (hT2.rd hn) hT2.ins hT2.sm (by omega)
    go_wp2_with fail
    with_reducible refine K.mono ?_
    rintro e w3 ⟨ys, a3, c3, rfl, hyl, hT3, hb3⟩
    have hW : DW w w2 B g (lim + 60 + 1) w3 a3 c3 n ys := ⟨hyl, hT3, hD2.step (row := none) (grownBy_of_below hb3 _) (fun r e => by cases e), grownBy_of_below hb3 _, Nat.lt_of_lt_of_le hlt hg02.size, Nat.le_trans hle hg02.size⟩
    clear K hyl hT3 hb3 hD2
    have hsb : IntKind.i64.wrap ((n : Int) - 1) = (n : Int) - 1 := IntWalk.i64_in _ (by omega)
    go_wp2_with fail
    clear hsb
    go_loopw [5, 6] (fun v i W => ∃ q : Int, i = .int .i64 q ∧ -1 ≤ q ∧ q ≤ 8 ∧ ∃ L ys a c, v = .slice a L c ∧ q < (L : Int) ∧ L ≤ 9 ∧ DW w w2 B g (lim + 160 - 2 * q) W a c L ys)
      (fun _ i _ => (intOf i + 1).toNat)
    case atStart => exact ⟨(n : Int) - 1, rfl, by omega, by omega, n, ys, _, _, rfl, by omega, hx9, hW.le' (by omega)⟩
    case round =>
      clear hW
      obtain ⟨q, rfl, hq0, hq8, L, ys, a3, c3, rfl, hqL, hL9, hW⟩ := hrel
      by_cases hq : q < 0
      · obtain rfl : q = -1 := by omega
        have hT := hT2.grown hW.g0 hlt
        have hg := grownBy_trans hg02 hW.g0
        go_wp2
        go_ret2
        exact ⟨xs, a, c, n, ys, a3, c3, L, rfl, hn, hW.len, hx9, hL9, hT, hW.own.mono hg02.size, hW.dr.le (by omega), hg⟩
      · obtain ⟨k, rfl⟩ := Int.eq_ofNat_of_zero_le (show 0 ≤ q by omega)
        have hk0 : (0 : Int) ≤ (k : Int) := by omega
        have hkL : k < L := by omega
        go_wp2_with fail
        refine (pickD _ hW.dr (by omega)).mono ?_
        rintro e w5 ⟨t, rfl, t0, t1, hD, hg⟩
        have hW5 := hW.pick hD hg
        clear hW hD hg t1
        obtain ⟨gg, rfl, hBg, hggl⟩ := hW5.own.row.head (by rw [hW5.len]; omega)
        obtain ⟨x, hx⟩ : ∃ x, ys[k]? = some x := ⟨_, List.getElem?_eq_getElem (by rw [hW5.len]; omega)⟩
        obtain ⟨⟨c0, c1, c2⟩, _, _, f2⟩ := cellsT hW5.own.row hx
        by_cases h0 : t = 0
        · subst h0
          obtain ⟨dr, hdr⟩ : ∃ dr, x.dr = dr := ⟨_, rfl⟩
          rw [hdr] at c1
          have HX := Lib.hid hx
          clear hdr hx
          cases dr with
          | true =>
            go_wp2
            go_roundw
            case rel => exact ⟨(k : Int) - 1, by go_num, by omega, by omega, L, ys, _, _, rfl, by omega, hL9, hW5.le' (by omega)⟩
            case measure => simp [intOf] <;> omega
          | false =>
            go_wp2_with fail
            refine (pickD _ hW5.dr (by omega)).mono ?_
            rintro e w6 ⟨y, rfl, y0, y1, hD, hg⟩
            have y2 := y1 (by omega)
            have hW6 := hW5.pick hD hg
            have hggl6 := Nat.lt_of_lt_of_le hggl hg.size
            clear hW5 hD hg y1 c0 c1 c2 f2 hggl
            obtain ⟨⟨c0, c1, c2⟩, _, _, f2⟩ := cellsT hW6.own.row HX.out
            have hW7 := Lib.hid (hW6.ids hBg HX.out (1 + y) (by omega) hggl6)
            clear hW6 c0 c1
            go_wp2
            go_roundw
            case rel => exact ⟨(k : Int) - 1, by go_num, by omega, by omega, L, _, _, _, rfl, by omega, hL9, hW7.out.le' (lim' := lim + 160 - 2 * ((k : Int) - 1)) (by omega)⟩
            case measure => simp [intOf] <;> omega
        · have h0' : (t == 0) = false := by simp [h0]
          by_cases h1 : t = 1
          · subst h1
            have K := TreeDrop_any (some ⟨gg, 0, none⟩) L c3 ys x.pa w2.heap.size w5 (hW5.own.rd hW5.len) hW5.own.ins hW5.own.sm (by omega)
            clear hx
            go_wp2_with fail
            with_reducible refine K.mono ?_
            rintro e w6 ⟨zs, a6, c6, ok, rfl, hok, hT6, hb6⟩
            clear K c0 c1 c2 f2
            cases ok with
            | true =>
              have hzl := hok rfl
              have hW7 := hW5.new hb6 hT6
              clear hW5 hok hT6 hb6
              go_wp2
              go_roundw
              case rel => exact ⟨(k : Int) - 1, by go_num, by omega, by omega, zs.length, zs, a6, c6, rfl, by omega, by omega, hW7.le' (by omega)⟩
              case measure => simp [intOf] <;> omega
            | false =>
              have hW7 := hW5.below hb6
              clear hW5 hok hT6 hb6
              go_wp2
              go_roundw
              case rel => exact ⟨(k : Int) - 1, by go_num, by omega, by omega, L, ys, _, c3, rfl, by omega, hL9, hW7.le' (by omega)⟩
              case measure => simp [intOf] <;> omega
          · have h1' : (t == 1) = false := by simp [h1]
            clear c0 c1 c2 f2
            go_wp2
            go_roundw
            case rel => exact ⟨(k : Int) - 1, by go_num, by omega, by omega, L, ys, _, c3, rfl, by omega, hL9, hW5.le' (by omega)⟩
            case measure => simp [intOf] <;> omega

end Go.Proofs.Ytdjpaibjelfhnaa
