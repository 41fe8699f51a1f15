/- Walk of FnUnpackPart. -/
import Derived.Test.YtbegmliglabpfaaUnLaw
namespace Go.Proofs.Ytbegmliglabpfaa
open Go.RowKit
set_option linter.unusedVariables false

theorem own_two (w : World) (x y : Int) (h0 : -9223372036854775808 ≤ x) (h1 : x ≤ 9223372036854775807) (h2 : -9223372036854775808 ≤ y) (h3 : y ≤ 9223372036854775807) :
    OwnI (w.alloc (.cells #[.int .i64 x, .int .i64 y] 3)).drew w.heap.size (some ⟨w.heap.size, 0, none⟩) 2 [x, y] := by
  refine ⟨wf_two h0 h1 h2 h3, ?_⟩
  have := World.ownsRow_lit (e := 3) (size := 1) (base := w.heap.size) w #[.int .i64 x, .int .i64 y] 2 (Nat.le_refl _) (by unfold maxLen; omega) rfl
  have h : (w.alloc (.cells #[.int .i64 x, .int .i64 y] 3)).ownsRow w.heap.size 3 1 (.slice (some ⟨w.heap.size, 0, none⟩) 2 2) 2 [.int .i64 x, .int .i64 y] := by simpa using this
  exact h

theorem OwnI.twoCells {w : World} {B g c : Nat} {zs : List Int} (h : OwnI w B (some ⟨g, 0, none⟩) c zs) (o : Obj) :
    ∀ j u, (zs.map (Value.int .i64))[j]? = some u → (w.alloc o).drew.cell? ((⟨g, 0, none⟩ : Addr).add j) = some u :=
  (h.alloc o).2.cells (g := g) rfl

theorem twoKeep {w w6 : World} {o : Obj} {g i : Nat} {v : Value} (hG : (w.alloc o).drew.grownBy w6 (Value.slice (some ⟨w.heap.size, 0, none⟩) 2 2).ownBlock) (hc : w.cell? ⟨g, i, none⟩ = some v) : w6.cell? ⟨g, i, none⟩ = some v := by
  have hlt := World.block_lt_of_cell? _ _ hc
  refine hG.cell (a := ⟨g, i, none⟩) ((World.cell?_alloc_lt w o ⟨g, i, none⟩ hlt).trans hc) ?_
  simp only [Value.ownBlock]
  intro e
  injection e with e
  have : g = w.heap.size := e
  have h2 : g < w.heap.size := hlt
  omega

theorem twoLt {w w6 : World} {o : Obj} {g : Nat} {row : Option Nat} (hG : (w.alloc o).drew.grownBy w6 row) (hg : g < w.heap.size) : g < w6.heap.size := by
  have := hG.size
  simp at this
  omega

theorem readTwo {w : World} {B : Nat} {a : Option Addr} {c : Nat} {x y : Int} {zs : List Int} (h : OwnI w B a c ([x, y] ++ zs)) : RdI w a (2 + zs.length) ([x, y] ++ zs) := by
  have := h.rd
  rwa [List.length_append, show ([x, y] : List Int).length = 2 from rfl] at this

set_option maxHeartbeats 2000000 in
theorem FnUnpackPart_walk (a : Option Addr) (n c : Nat) (w : World) (h : RdC w a n) (hc : n ≤ c) (hm : c ≤ maxLen) :
    Calls Try.prog 16 #[.slice a n c] w (Tr w) := by
  unfold maxLen at hm
  by_cases hn : n ≤ 1048576
  · go_enter Try.func16, Try.ntmps16
    go_wp2_with fail
    with_reducible refine (DrawBlockUnpack_any a n c _ h hc hn).mono ?_
    rintro e w1 ⟨zs, a1, c1, rfl, hz, hO1, hb1⟩
    go_wp2_with fail
    with_reducible refine (implBlockUnpack_any a1 zs.length c1 zs _ hO1.rd hO1.wf (by omega)).mono ?_
    rintro e w2 ⟨aG, cG, rfl, hG2, hb⟩
    have hO2 := hO1.below hb
    have hb2 := hb1.trans (hb.mono hb1.size)
    clear hb hO1 hb1 h
    go_wp2_with fail
    with_reducible refine (specBlockUnpack_any a1 zs.length c1 zs _ hO2.rd hO2.wf (by omega)).mono ?_
    rintro e w3 ⟨aW, cW, rfl, hW3, hb⟩
    have hO3 := hO2.below hb
    have hG3 := hG2.below hb
    have hb3 := hb2.trans (hb.mono hb2.size)
    clear hb hO2 hG2 hb2
    have hpl := unR_length zs
    go_wp2_with fail
    with_reducible refine (sameInts_any aG aW _ _ cG cW (unR zs) (unR zs) _ hG3.rd hW3.rd (by omega) (by omega)).mono ?_
    rintro e w4 ⟨rfl, m4, hm4⟩
    have hb : Below w3.heap.size w3 w4 := by rw [hm4]; exact below_drewN (Below.refl _ _) _
    rw [eqI_self]
    have hO4 := hO3.below hb
    have hG4 := hG3.below hb
    have hW4 := hW3.below hb
    have hb4 := hb3.trans (hb.mono hb3.size)
    clear hb hm4 hO3 hG3 hW3 hb3
    by_cases hv : unOK zs = true
    · have HV := Lib.hid hv
      have hok : readOK zs = true := by rw [un_iff]; exact hv
      obtain ⟨f1, f2, f3, f4, f5⟩ := readOK_facts hok
      have hzl : 2 ≤ zs.length := by omega
      have hno1 : Hid (unOK (zs.take (zs.length - 1)) = false) := Lib.hid (un_odd (by rw [List.length_take]; omega))
      have hno2 : Hid (unOK ([zs.getD 0 0, zs.getD 1 0] ++ zs) = false) := Lib.hid (un_twice hzl)
      obtain ⟨g1, rfl, _, _⟩ := hO4.head (by omega)
      have hcap := hO4.cap.1
      have hr4 : RdI w4 (some ⟨g1, 0, none⟩) (zs.length - 1) (zs.take (zs.length - 1)) := hO4.rd.take (by omega)
      have hwt : WfI (zs.take (zs.length - 1)) := fun z hz => hO4.1 z (List.mem_of_mem_take hz)
      have HW := Lib.hid hwt
      clear hok f1 f2 f3 f4 f5 hwt
      go_wp2_with fail
      with_reducible refine (implBlockUnpack_any _ _ _ _ _ hr4 HW.out (by omega)).mono ?_
      rintro e w5 ⟨aX, cX, rfl, hX, hb5⟩
      rw [hno1.out]
      have hO5 := hO4.below hb5
      have hb6 := hb4.trans (hb5.mono hb4.size)
      clear hb5 hb4 hO4 hG4 hW4 hX hr4
      obtain ⟨b, off, ha, hblt, hcc⟩ := hO5.rd.2 0 (by omega)
      injection ha with ha
      injection ha with hb' ho'
      subst hb'
      subst ho'
      obtain ⟨x, hx⟩ : ∃ x, x = zs.getD 0 0 := ⟨_, rfl⟩
      obtain ⟨y, hy⟩ : ∃ y, y = zs.getD 1 0 := ⟨_, rfl⟩
      have cx := hcc 0 (by omega)
      have cy := hcc 1 (by omega)
      have wx := hO5.1.at_ (i := 0) (by omega)
      have wy := hO5.1.at_ (i := 1) (by omega)
      rw [← hx] at cx wx
      rw [← hy] at cy wy
      rw [← hx, ← hy] at hno2
      simp only [Nat.zero_add] at cx cy
      obtain ⟨wx0, wx1⟩ := wx
      obtain ⟨wy0, wy1⟩ := wy
      clear hx hy hcc
      have hsz := hb6.size
      have HO5 := Lib.hid hO5
      have p0 : (0 : Int) < (zs.length : Int) := by omega
      have p1 : (1 : Int) < (zs.length : Int) := by omega
      go_wp2_with fail
      have hg1 : g1 < w5.heap.size := hblt
      have pn0 : 0 < zs.length := by omega
      have pn1 : 1 < zs.length := by omega
      go_region_held3 (fun w' => w'.cell? ⟨g1, 0, none⟩ = some (.int .i64 x) ∧ w'.cell? ⟨g1, 1, none⟩ = some (.int .i64 y))
        (first
          | go_keep
          | exact ⟨twoKeep hG6 cx, twoKeep hG6 cy⟩
          | exact ⟨(hb7.cell (p := ⟨g1, 0, none⟩) (twoLt hG6 hg1)).trans (twoKeep hG6 cx), (hb7.cell (p := ⟨g1, 1, none⟩) (twoLt hG6 hg1)).trans (twoKeep hG6 cy)⟩)
        (first
          | (refine step_app (zs := [x, y]) (by rfl) _ _ (by rfl) (by rfl) (own_two w5 x y wx0 wx1 wy0 wy1) ⟨g1, 0, none⟩ zs.length c1 zs (by rfl) rfl (HO5.out.twoCells _) HO5.out.wf (by simp; omega) (by simp) ?_; intro a6 c6 w6 hO6 hG6)
          | (go_at_call 34; refine (implBlockUnpack_any _ _ _ _ _ (readTwo hO6) hO6.wf (by omega)).mono ?_; rintro e w7 ⟨a7, c7, rfl, hX7, hb7⟩))
      have hno3 : unOK (x :: y :: zs) = false := hno2.out
      have hb8 : Below w.heap.size w w7 := by
        have h1 := ((hb6.alloc hb6.size (.cells #[.int .i64 x, .int .i64 y] 3)).drew).grown hG6 (by simp; omega) (by intro r hr; simp [Value.ownBlock] at hr; omega)
        exact h1.trans (hb7.mono h1.size)
      clear hO6 hG6 hX7 hb7 hO5 cx cy
      go_wp2
      go_ret
      exact ⟨rfl, hb8⟩

    · have hv' : unOK zs = false := by simpa using hv
      clear hv
      go_wp2_with fail
      with_reducible refine (sameInts_any aG aW _ _ cG cW (unR zs) (unR zs) _ hG4.rd hW4.rd (by omega) (by omega)).mono ?_
      rintro e w5 ⟨rfl, m5, hm5⟩
      have hb : Below w4.heap.size w4 w5 := by rw [hm5]; exact below_drewN (Below.refl _ _) _
      rw [eqI_self]
      have hb5 := hb4.trans (hb.mono hb4.size)
      clear hb hm5
      go_wp2
      go_ret
      exact ⟨rfl, hb5⟩
  · go_enter Try.func16, Try.ntmps16
    go_wp2
    go_ret
    exact ⟨rfl, Below.refl _ _⟩

end Go.Proofs.Ytbegmliglabpfaa
