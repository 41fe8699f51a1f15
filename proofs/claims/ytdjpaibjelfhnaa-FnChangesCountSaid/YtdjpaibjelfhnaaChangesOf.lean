/- Weak contract of the reference's ChangesOf. -/
import Derived.Test.YtdjpaibjelfhnaaTreeValid
import Derived.Test.YtdjpaibjelfhnaaEltG
import Derived.Deep.LoopGhost
namespace Go.Proofs.Ytdjpaibjelfhnaa
open Go.RowKit
set_option linter.unusedVariables false
set_option linter.unusedSimpArgs false

/-- Changes that are being made. -/
structure CH (w W : World) (a : Option Addr) (c L : Nat) (cs : List PV) : Prop where
  len : cs.length = L
  own : OwnR eltG W w.heap.size a c cs
  bel : Below w.heap.size w W

theorem CH.below {w W W' : World} {a : Option Addr} {c L : Nat} {cs : List PV} (h : CH w W a c L cs) (hb : Below W.heap.size W W') : CH w W' a c L cs := ⟨h.len, h.own.below hb, h.bel.trans (hb.mono h.bel.size)⟩
theorem CH.drew {w W : World} {a : Option Addr} {c L : Nat} {cs : List PV} (h : CH w W a c L cs) : CH w W.drew a c L cs := ⟨h.len, h.own.drew, ⟨h.bel.os, h.bel.tape, h.bel.output, h.bel.size, h.bel.block⟩⟩
theorem CH.alloc {w W : World} {a : Option Addr} {c L : Nat} {cs : List PV} (h : CH w W a c L cs) (o : Obj) : CH w (W.alloc o) a c L cs := ⟨h.len, h.own.alloc o, h.bel.alloc h.bel.size o⟩
theorem CH.pushN {w W W' : World} {a a' : Option Addr} {c c' L k : Nat} {cs ys : List PV} {o : Obj} (h : CH w W a c L cs) (hk : ys.length = k) (hg : (W.alloc o).grownBy W' (Value.slice a L c).ownBlock) (hr : OwnR eltG W' w.heap.size a' c' (cs ++ ys)) : CH w W' a' c' (L + k) (cs ++ ys) :=
  ⟨by rw [List.length_append, h.len, hk], hr, (h.alloc o).bel.grown hg (by have := h.bel.size; simp; omega) (fun r hr => (h.own.lt r (by rw [h.len]; exact hr)).1)⟩
theorem CH.push {w W W' : World} {a a' : Option Addr} {c c' L : Nat} {cs : List PV} {y : PV} {o : Obj} (h : CH w W a c L cs) (hg : (W.alloc o).grownBy W' (Value.slice a L c).ownBlock) (hr : OwnR eltG W' w.heap.size a' c' (cs ++ [y])) : CH w W' a' c' (L + 1) (cs ++ [y]) := h.pushN rfl hg hr
theorem CH.push2 {w W W' : World} {a a' : Option Addr} {c c' L : Nat} {cs : List PV} {y z : PV} {o : Obj} (h : CH w W a c L cs) (hg : (W.alloc o).grownBy W' (Value.slice a L c).ownBlock) (hr : OwnR eltG W' w.heap.size a' c' (cs ++ [y, z])) : CH w W' a' c' (L + 2) (cs ++ [y, z]) := h.pushN rfl hg hr

theorem newG (W : World) (N : Nat) (hN : W.heap.size = N) (y : PV) : ∀ j u, (eltG.flat [y])[j]? = some u → (W.alloc (.cells #[.int .i64 y.kd, .string y.pa, .bool y.dr, .slice y.ad y.zs.length y.cp] 64)).cell? ((⟨N, 0, none⟩ : Addr).add j) = some u := by
  subst hN
  exact newR eltG W y _ rfl

theorem newG2 (W : World) (N : Nat) (hN : W.heap.size = N) (y z : PV) : ∀ j u, (eltG.flat [y, z])[j]? = some u → (W.alloc (.cells #[.int .i64 y.kd, .string y.pa, .bool y.dr, .slice y.ad y.zs.length y.cp, .int .i64 z.kd, .string z.pa, .bool z.dr, .slice z.ad z.zs.length z.cp] 64)).cell? ((⟨N, 0, none⟩ : Addr).add j) = some u := by
  subst hN
  intro j u hj
  rw [Addr.add_lit, cell_of_row _ W.heap.size _ _ _ (0, 0) (heap_alloc_new W _), Nat.zero_add]
  rw [show eltG.flat [y, z] = eltG.enc y ++ eltG.enc z by simp [Elt.flat], show eltG.enc y ++ eltG.enc z = (#[.int .i64 y.kd, .string y.pa, .bool y.dr, .slice y.ad y.zs.length y.cp, .int .i64 z.kd, .string z.pa, .bool z.dr, .slice z.ad z.zs.length z.cp] : Array Value).toList from rfl, Array.getElem?_toList] at hj
  exact hj

/-- Changes were told. -/
def RetCh (w : World) (n m : Nat) (e : Ending) (w' : World) : Prop :=
  ∃ cs a c L v, e = .returned (.tuple #[.slice a L c, .bool v]) ∧ L ≤ 2 * (n + m) ∧ CH w w' a c L cs

set_option maxHeartbeats 8000000 in
set_option maxRecDepth 100000 in
theorem ChangesOf_any (a : Option Addr) (n c : Nat) (xs : List TV) (a2 : Option Addr) (m c2 : Nat) (ys : List TV) (B : Nat) (w : World) (hr : RdR eltT w a n xs) (hin : ∀ x ∈ xs, OwnI w B x.ad x.cp x.zs) (hs : ∀ x ∈ xs, x.pa.size ≤ 1000 ∧ x.zs.length ≤ 1000)
    (hr2 : RdR eltT w a2 m ys) (hin2 : ∀ x ∈ ys, OwnI w B x.ad x.cp x.zs) (hs2 : ∀ x ∈ ys, x.pa.size ≤ 1000 ∧ x.zs.length ≤ 1000) (hn : n ≤ 1000) (hm : m ≤ 1000) :
    Calls Try.prog 37 #[.slice a n c, .slice a2 m c2] w (RetCh w n m) := by
  have HI := Lib.hid hin
  have HS := Lib.hid hs
  have HI2 := Lib.hid hin2
  have HS2 := Lib.hid hs2
  clear hin hs hin2 hs2
  have hC : CH w (w.alloc (.cells #[] 64)) (some ⟨w.heap.size, 0, none⟩) 0 0 [] := ⟨rfl, OwnR.empty eltG (Nat.le_refl _), (Below.refl _ _).alloc (Nat.le_refl _) _⟩
  go_enter Try.func37, Try.ntmps37
  go_wp2_with fail
  have KV := TreeValid_any a n c xs B _ (hr.below hC.bel) (fun x hx => (HI.out x hx).below hC.bel) HS.out (by omega)
  with_reducible refine KV.mono ?_
  rintro e w1 ⟨v, rfl, hb1⟩
  have hC := hC.below hb1
  clear KV hb1
  cases v with
  | false =>
    go_wp2
    go_ret2
    exact ⟨[], _, _, 0, false, rfl, by omega, hC⟩
  | true =>
    go_wp2_with fail
    have KV := TreeValid_any a2 m c2 ys B _ (hr2.below hC.bel) (fun x hx => (HI2.out x hx).below hC.bel) HS2.out (by omega)
    with_reducible refine KV.mono ?_
    rintro e w2 ⟨v, rfl, hb2⟩
    have hC := hC.below hb2
    clear KV hb2
    cases v with
    | false =>
      go_wp2
      go_ret2
      exact ⟨[], _, _, 0, false, rfl, by omega, hC⟩
    | true =>
      go_wp2_with fail
      go_loopg [6, 7, 8] (n + m) (fun gh v i k W => ∃ p q : Nat, p ≤ n ∧ q ≤ m ∧ gh = (n - p) + (m - q) ∧ i = .int .i64 p ∧ k = .int .i64 q ∧ ∃ cs a c L, v = .slice a L c ∧ L ≤ 2 * (p + q) ∧ CH w W a c L cs)
      case atStart => exact ⟨0, 0, by omega, by omega, by omega, rfl, rfl, [], _, _, 0, rfl, by omega, hC⟩
      case round =>
        clear hC
        obtain ⟨p, q, hp, hq, rfl, rfl, rfl, cs, a4, c4, L, rfl, hL, hC⟩ := hrel
        by_cases hpn : p < n
        · obtain ⟨b, off, x, rfl, hbl, hx, k0, k1, k2⟩ := atT hr hpn
          have hsx := HS.out x (List.mem_of_getElem? hx)
          have hIn := Lib.hid (HI.out x (List.mem_of_getElem? hx))
          have hp0 : (0 : Int) ≤ (p : Int) := by omega
          have hp1 : (p : Int) < (n : Int) := by omega
          clear hx
          by_cases hqm : q < m
          · obtain ⟨b2, off2, y, rfl, hbl2, hy, l0, l1, l2⟩ := atT hr2 hqm
            have hsy := HS2.out y (List.mem_of_getElem? hy)
            have hIn2 := Lib.hid (HI2.out y (List.mem_of_getElem? hy))
            have hq0 : (0 : Int) ≤ (q : Int) := by omega
            have hq1 : (q : Int) < (m : Int) := by omega
            have hqe : ¬ (q : Int) = (m : Int) := by omega
            have hpe : ¬ (p : Int) = (n : Int) := by omega
            have hqe' : ¬ q = m := by omega
            have hpe' : ¬ p = n := by omega
            clear hy
            have he1 : ((q : Int) == (m : Int)) = false := by simp; omega
            have he2 : (q == m) = false := by simp; omega
            have he3 : decide ((q : Int) = (m : Int)) = false := by simp; omega
            have he4 : decide (q = m) = false := by simp; omega
            have hf1 : ((p : Int) == (n : Int)) = false := by simp; omega
            have hf2 : (p == n) = false := by simp; omega
            have hf3 : decide ((p : Int) = (n : Int)) = false := by simp; omega
            have hf4 : decide (p = n) = false := by simp; omega
            have hg1 : decide ((p : Int) < (n : Int)) = true := by simp; omega
            have hg2 : decide (p < n) = true := by simp; omega
            obtain ⟨v1, hv1⟩ : ∃ v, Op.bytesLess x.pa.toList y.pa.toList = v := ⟨_, rfl⟩
            go_wp2_with fail
            cases v1 with
            | true =>
              refine wp_region_noPanic ?_
              refine wp_region_held_drew (S := fun w' => w'.cell? ⟨b, off + p * 3, none⟩ = some (.string x.pa) ∧ w'.cell? ⟨b, off + p * 3 + 1, none⟩ = some (.bool x.dr) ∧ w'.cell? ⟨b, off + p * 3 + 2, none⟩ = some (.slice x.ad x.zs.length x.cp) ∧ w'.cell? ⟨b2, off2 + q * 3, none⟩ = some (.string y.pa) ∧ w'.cell? ⟨b2, off2 + q * 3 + 1, none⟩ = some (.bool y.dr) ∧ w'.cell? ⟨b2, off2 + q * 3 + 2, none⟩ = some (.slice y.ad y.zs.length y.cp)) (by kernel_rfl) ?_ (fun hHeld => ?_)
              · exact ⟨(hC.bel.cell (p := ⟨b, off + p * 3, none⟩) hbl).trans k0, (hC.bel.cell (p := ⟨b, off + p * 3 + 1, none⟩) hbl).trans k1, (hC.bel.cell (p := ⟨b, off + p * 3 + 2, none⟩) hbl).trans k2, (hC.bel.cell (p := ⟨b2, off2 + q * 3, none⟩) hbl2).trans l0, (hC.bel.cell (p := ⟨b2, off2 + q * 3 + 1, none⟩) hbl2).trans l1, (hC.bel.cell (p := ⟨b2, off2 + q * 3 + 2, none⟩) hbl2).trans l2⟩
              refine held_yes (i := 0) 79 (v := ?_) rfl rfl (by kernel_rfl) (by kernel_rfl) (by kernel_rfl) (fun _ _ _ _ _ h => h) (by rfl) (by assumption) ?_ ?_
              rotate_left 1
              · intro w hSw
                (try dsimp only at hSw)
                first | (go_simp; done) | (go_simp; with_reducible rfl)
              try simp only [Act.put, List.setIfInBounds_toArray, List.set_cons_zero, List.set_cons_succ]
              refine held_yes (i := 1) 80 (v := ?_) rfl rfl (by kernel_rfl) (by kernel_rfl) (by kernel_rfl) (fun _ _ _ _ _ h => h) (by rfl) (by assumption) ?_ ?_
              rotate_left 1
              · intro w hSw
                (try dsimp only at hSw)
                first | (go_simp; done) | (go_simp; with_reducible rfl)
              try simp only [Act.put, List.setIfInBounds_toArray, List.set_cons_zero, List.set_cons_succ]
              refine held_yes (i := 2) 81 (v := ?_) rfl rfl (by kernel_rfl) (by kernel_rfl) (by kernel_rfl) (fun _ _ _ _ _ h => h) (by rfl) (by assumption) ?_ ?_
              rotate_left 1
              · intro w hSw
                (try dsimp only at hSw)
                first | (go_simp; done) | (go_simp; with_reducible rfl)
              try simp only [Act.put, List.setIfInBounds_toArray, List.set_cons_zero, List.set_cons_succ]
              refine held_yes (i := 3) 82 (v := ?_) rfl rfl (by kernel_rfl) (by kernel_rfl) (by kernel_rfl) (fun _ _ _ _ _ h => h) (by rfl) (by assumption) ?_ ?_
              rotate_left 1
              · intro w hSw
                (try dsimp only at hSw)
                first | (go_simp; done) | (go_simp; with_reducible rfl)
              try simp only [Act.put, List.setIfInBounds_toArray, List.set_cons_zero, List.set_cons_succ]
              refine held_yes (i := 4) 83 (v := ?_) rfl rfl (by kernel_rfl) (by kernel_rfl) (by kernel_rfl) (fun _ _ _ _ _ h => h) (by rfl) (by assumption) ?_ ?_
              rotate_left 1
              · intro w hSw
                (try dsimp only at hSw)
                first | (go_simp; done) | (go_simp; with_reducible rfl)
              try simp only [Act.put, List.setIfInBounds_toArray, List.set_cons_zero, List.set_cons_succ]
              refine held_yes (i := 5) 84 (v := ?_) rfl rfl (by kernel_rfl) (by kernel_rfl) (by kernel_rfl) (fun _ _ _ _ _ h => h) (by rfl) (by assumption) ?_ ?_
              rotate_left 1
              · intro w hSw
                (try dsimp only at hSw)
                first | (go_simp; done) | (go_simp; with_reducible rfl)
              try simp only [Act.put, List.setIfInBounds_toArray, List.set_cons_zero, List.set_cons_succ]
              refine held_yes (i := 6) 85 (v := ?_) rfl rfl (by kernel_rfl) (by kernel_rfl) (by kernel_rfl) (fun _ _ _ _ _ h => h) (by rfl) (by assumption) ?_ ?_
              rotate_left 1
              · intro w hSw
                (try dsimp only at hSw)
                first | (go_simp; done) | (go_simp; with_reducible rfl)
              try simp only [Act.put, List.setIfInBounds_toArray, List.set_cons_zero, List.set_cons_succ]
              refine held_yes (i := 7) 86 (v := ?_) rfl rfl (by kernel_rfl) (by kernel_rfl) (by kernel_rfl) (fun _ _ _ _ _ h => h) (by rfl) (by assumption) ?_ ?_
              rotate_left 1
              · intro w hSw
                (try dsimp only at hSw)
                first | (go_simp; done) | (go_simp; with_reducible rfl)
              try simp only [Act.put, List.setIfInBounds_toArray, List.set_cons_zero, List.set_cons_succ]
              refine held_yes (i := 8) 87 (v := ?_) rfl rfl (by kernel_rfl) (by kernel_rfl) (by kernel_rfl) (fun _ _ _ _ _ h => h) (by rfl) (by assumption) ?_ ?_
              rotate_left 1
              · intro w hSw
                (try dsimp only at hSw)
                first | (go_simp; done) | (go_simp; with_reducible rfl)
              try simp only [Act.put, List.setIfInBounds_toArray, List.set_cons_zero, List.set_cons_succ]
              refine held_yes (i := 9) 88 (v := ?_) rfl rfl (by kernel_rfl) (by kernel_rfl) (by kernel_rfl) (fun _ _ _ _ _ h => h) (by rfl) (by assumption) ?_ ?_
              rotate_left 1
              · intro w hSw
                (try dsimp only at hSw)
                first | (go_simp; done) | (go_simp; with_reducible rfl)
              try simp only [Act.put, List.setIfInBounds_toArray, List.set_cons_zero, List.set_cons_succ]
              refine held_yes (i := 10) 89 (v := ?_) rfl rfl (by kernel_rfl) (by kernel_rfl) (by kernel_rfl) (fun _ _ _ _ _ h => h) (by rfl) (by assumption) ?_ ?_
              rotate_left 1
              · intro w hSw
                (try dsimp only at hSw)
                first | (go_simp; done) | (go_simp; with_reducible rfl)
              try simp only [Act.put, List.setIfInBounds_toArray, List.set_cons_zero, List.set_cons_succ]
              refine held_yes (i := 11) 90 (v := ?_) rfl rfl (by kernel_rfl) (by kernel_rfl) (by kernel_rfl) (fun _ _ _ _ _ h => h) (by rfl) (by assumption) ?_ ?_
              rotate_left 1
              · intro w hSw
                (try dsimp only at hSw)
                first | (go_simp; done) | (go_simp; with_reducible rfl)
              try simp only [Act.put, List.setIfInBounds_toArray, List.set_cons_zero, List.set_cons_succ]
              refine held_yes (i := 12) 91 (v := ?_) rfl rfl (by kernel_rfl) (by kernel_rfl) (by kernel_rfl) (fun _ _ _ _ _ h => h) (by rfl) (by assumption) ?_ ?_
              rotate_left 1
              · intro w hSw
                (try dsimp only at hSw)
                first | (go_simp; done) | (go_simp; with_reducible rfl)
              try simp only [Act.put, List.setIfInBounds_toArray, List.set_cons_zero, List.set_cons_succ]
              refine held_yes (i := 13) 92 (v := ?_) rfl rfl (by kernel_rfl) (by kernel_rfl) (by kernel_rfl) (fun _ _ _ _ _ h => h) (by rfl) (by assumption) ?_ ?_
              rotate_left 1
              · intro w hSw
                (try dsimp only at hSw)
                first | (go_simp; done) | (go_simp; with_reducible rfl)
              try simp only [Act.put, List.setIfInBounds_toArray, List.set_cons_zero, List.set_cons_succ]
              refine held_yes (i := 14) 93 (v := ?_) rfl rfl (by kernel_rfl) (by kernel_rfl) (by kernel_rfl) (fun _ _ _ _ _ h => h) (by rfl) (by assumption) ?_ ?_
              rotate_left 1
              · intro w hSw
                (try dsimp only at hSw)
                first | (go_simp; done) | (go_simp; with_reducible rfl)
              try simp only [Act.put, List.setIfInBounds_toArray, List.set_cons_zero, List.set_cons_succ]
              refine held_yes (i := 15) 94 (v := ?_) rfl rfl (by kernel_rfl) (by kernel_rfl) (by kernel_rfl) (fun _ _ _ _ _ h => h) (by rfl) (by assumption) ?_ ?_
              rotate_left 1
              · intro w hSw
                (try dsimp only at hSw)
                first | (go_simp; done) | (go_simp; with_reducible rfl)
              try simp only [Act.put, List.setIfInBounds_toArray, List.set_cons_zero, List.set_cons_succ]
              refine held_yes (i := 16) 95 (v := ?_) rfl rfl (by kernel_rfl) (by kernel_rfl) (by kernel_rfl) (fun _ _ _ _ _ h => h) (by rfl) (by assumption) ?_ ?_
              rotate_left 1
              · intro w hSw
                (try dsimp only at hSw)
                first | (go_simp; done) | (go_simp; with_reducible rfl)
              try simp only [Act.put, List.setIfInBounds_toArray, List.set_cons_zero, List.set_cons_succ]
              refine held_yes (i := 17) 96 (v := ?_) rfl rfl (by kernel_rfl) (by kernel_rfl) (by kernel_rfl) (fun _ _ _ _ _ h => h) (by rfl) (by assumption) ?_ ?_
              rotate_left 1
              · intro w hSw
                (try dsimp only at hSw)
                first | (go_simp; done) | (go_simp; with_reducible rfl)
              try simp only [Act.put, List.setIfInBounds_toArray, List.set_cons_zero, List.set_cons_succ]
              refine held_yes (i := 18) 97 (v := ?_) rfl rfl (by kernel_rfl) (by kernel_rfl) (by kernel_rfl) (fun _ _ _ _ _ h => h) (by rfl) (by assumption) ?_ ?_
              rotate_left 1
              · intro w hSw
                (try dsimp only at hSw)
                first | (go_simp; done) | (go_simp; with_reducible rfl)
              try simp only [Act.put, List.setIfInBounds_toArray, List.set_cons_zero, List.set_cons_succ]
              refine held_yes (i := 19) 98 (v := ?_) rfl rfl (by kernel_rfl) (by kernel_rfl) (by kernel_rfl) (fun _ _ _ _ _ h => h) (by rfl) (by assumption) ?_ ?_
              rotate_left 1
              · intro w hSw
                (try dsimp only at hSw)
                first | (go_simp; done) | (go_simp; with_reducible rfl)
              try simp only [Act.put, List.setIfInBounds_toArray, List.set_cons_zero, List.set_cons_succ]
              refine held_yes (i := 20) 99 (v := ?_) rfl rfl (by kernel_rfl) (by kernel_rfl) (by kernel_rfl) (fun _ _ _ _ _ h => h) (by rfl) (by assumption) ?_ ?_
              rotate_left 1
              · intro w hSw
                (try dsimp only at hSw)
                first | (go_simp; done) | (go_simp; with_reducible rfl)
              try simp only [Act.put, List.setIfInBounds_toArray, List.set_cons_zero, List.set_cons_succ]
              refine held_yes (i := 21) 100 (v := ?_) rfl rfl (by kernel_rfl) (by kernel_rfl) (by kernel_rfl) (fun _ _ _ _ _ h => h) (by rfl) (by assumption) ?_ ?_
              rotate_left 1
              · intro w hSw
                (try dsimp only at hSw)
                first | (go_simp; done) | (go_simp; with_reducible rfl)
              try simp only [Act.put, List.setIfInBounds_toArray, List.set_cons_zero, List.set_cons_succ]
              refine held_yes (i := 22) 101 (v := ?_) rfl rfl (by kernel_rfl) (by kernel_rfl) (by kernel_rfl) (fun _ _ _ _ _ h => h) (by rfl) (by assumption) ?_ ?_
              rotate_left 1
              · intro w hSw
                (try dsimp only at hSw)
                first | (go_simp; done) | (go_simp; with_reducible rfl)
              try simp only [Act.put, List.setIfInBounds_toArray, List.set_cons_zero, List.set_cons_succ]
              refine held_yes (i := 23) 78 (v := ?_) rfl rfl (by kernel_rfl) (by kernel_rfl) (by kernel_rfl) (fun _ _ _ _ _ h => h) (by rfl) (by assumption) ?_ ?_
              rotate_left 1
              · intro w hSw
                (try dsimp only at hSw)
                first | (go_simp; done) | (go_simp; with_reducible rfl)
              try simp only [Act.put, List.setIfInBounds_toArray, List.set_cons_zero, List.set_cons_succ]
              refine wpAnyH_done (by kernel_rfl) ?_ _
              refine NoPanic.normal ?_
              have hC := hC.drew
              clear hHeld
              generalize wr.drew = w1 at hC ⊢
              have c0 := (hC.bel.cell (p := ⟨b, off + p * 3, none⟩) hbl).trans k0
              have c1 := (hC.bel.cell (p := ⟨b, off + p * 3 + 1, none⟩) hbl).trans k1
              have c2 := (hC.bel.cell (p := ⟨b, off + p * 3 + 2, none⟩) hbl).trans k2
              go_wp2_with fail
              with_reducible refine (l5Copy_any x B w1 (hIn.out.below hC.bel) (by omega)).mono ?_
              rintro e w5a ⟨a5, c5, rfl, hO5, hb5⟩
              have hC := hC.below hb5
              clear c0 c1 c2
              clear hO5 hb5
              go_wp2_with (at_builtin; refine wp_appR eltG rfl _ _ rfl hC.len rfl (hC.own.alloc _) ⟨w5a.heap.size, 0, none⟩ 1 1 [⟨2, x.pa, x.dr, a5, c5, x.zs⟩] rfl rfl (newG w5a _ rfl ⟨2, x.pa, x.dr, a5, c5, x.zs⟩) (by omega) (by have := hC.bel.size; simp; omega) ?_; intro a6 c6 w6a hR6 hG6)
              have hC := hC.push hG6 hR6
              clear hR6 hG6
              go_roundg ((n - (p + 1)) + (m - q))
              case measure => omega
              case rel => exact ⟨(p + 1), q, by omega, by omega, rfl, by go_num, by go_num, _, _, _, (L + 1), rfl, by omega, hC⟩
            | false =>
              refine wp_region_noPanic ?_
              refine wp_region_held_drew (S := fun w' => w'.cell? ⟨b, off + p * 3, none⟩ = some (.string x.pa) ∧ w'.cell? ⟨b, off + p * 3 + 1, none⟩ = some (.bool x.dr) ∧ w'.cell? ⟨b, off + p * 3 + 2, none⟩ = some (.slice x.ad x.zs.length x.cp) ∧ w'.cell? ⟨b2, off2 + q * 3, none⟩ = some (.string y.pa) ∧ w'.cell? ⟨b2, off2 + q * 3 + 1, none⟩ = some (.bool y.dr) ∧ w'.cell? ⟨b2, off2 + q * 3 + 2, none⟩ = some (.slice y.ad y.zs.length y.cp)) (by kernel_rfl) ?_ (fun hHeld => ?_)
              · exact ⟨(hC.bel.cell (p := ⟨b, off + p * 3, none⟩) hbl).trans k0, (hC.bel.cell (p := ⟨b, off + p * 3 + 1, none⟩) hbl).trans k1, (hC.bel.cell (p := ⟨b, off + p * 3 + 2, none⟩) hbl).trans k2, (hC.bel.cell (p := ⟨b2, off2 + q * 3, none⟩) hbl2).trans l0, (hC.bel.cell (p := ⟨b2, off2 + q * 3 + 1, none⟩) hbl2).trans l1, (hC.bel.cell (p := ⟨b2, off2 + q * 3 + 2, none⟩) hbl2).trans l2⟩
              refine held_yes (i := 0) 79 (v := ?_) rfl rfl (by kernel_rfl) (by kernel_rfl) (by kernel_rfl) (fun _ _ _ _ _ h => h) (by rfl) (by assumption) ?_ ?_
              rotate_left 1
              · intro w hSw
                (try dsimp only at hSw)
                first | (go_simp; done) | (go_simp; with_reducible rfl)
              try simp only [Act.put, List.setIfInBounds_toArray, List.set_cons_zero, List.set_cons_succ]
              refine held_yes (i := 1) 80 (v := ?_) rfl rfl (by kernel_rfl) (by kernel_rfl) (by kernel_rfl) (fun _ _ _ _ _ h => h) (by rfl) (by assumption) ?_ ?_
              rotate_left 1
              · intro w hSw
                (try dsimp only at hSw)
                first | (go_simp; done) | (go_simp; with_reducible rfl)
              try simp only [Act.put, List.setIfInBounds_toArray, List.set_cons_zero, List.set_cons_succ]
              refine held_yes (i := 2) 81 (v := ?_) rfl rfl (by kernel_rfl) (by kernel_rfl) (by kernel_rfl) (fun _ _ _ _ _ h => h) (by rfl) (by assumption) ?_ ?_
              rotate_left 1
              · intro w hSw
                (try dsimp only at hSw)
                first | (go_simp; done) | (go_simp; with_reducible rfl)
              try simp only [Act.put, List.setIfInBounds_toArray, List.set_cons_zero, List.set_cons_succ]
              refine held_yes (i := 3) 82 (v := ?_) rfl rfl (by kernel_rfl) (by kernel_rfl) (by kernel_rfl) (fun _ _ _ _ _ h => h) (by rfl) (by assumption) ?_ ?_
              rotate_left 1
              · intro w hSw
                (try dsimp only at hSw)
                first | (go_simp; done) | (go_simp; with_reducible rfl)
              try simp only [Act.put, List.setIfInBounds_toArray, List.set_cons_zero, List.set_cons_succ]
              refine held_yes (i := 4) 83 (v := ?_) rfl rfl (by kernel_rfl) (by kernel_rfl) (by kernel_rfl) (fun _ _ _ _ _ h => h) (by rfl) (by assumption) ?_ ?_
              rotate_left 1
              · intro w hSw
                (try dsimp only at hSw)
                first | (go_simp; done) | (go_simp; with_reducible rfl)
              try simp only [Act.put, List.setIfInBounds_toArray, List.set_cons_zero, List.set_cons_succ]
              refine held_yes (i := 5) 84 (v := ?_) rfl rfl (by kernel_rfl) (by kernel_rfl) (by kernel_rfl) (fun _ _ _ _ _ h => h) (by rfl) (by assumption) ?_ ?_
              rotate_left 1
              · intro w hSw
                (try dsimp only at hSw)
                first | (go_simp; done) | (go_simp; with_reducible rfl)
              try simp only [Act.put, List.setIfInBounds_toArray, List.set_cons_zero, List.set_cons_succ]
              refine held_yes (i := 6) 85 (v := ?_) rfl rfl (by kernel_rfl) (by kernel_rfl) (by kernel_rfl) (fun _ _ _ _ _ h => h) (by rfl) (by assumption) ?_ ?_
              rotate_left 1
              · intro w hSw
                (try dsimp only at hSw)
                first | (go_simp; done) | (go_simp; with_reducible rfl)
              try simp only [Act.put, List.setIfInBounds_toArray, List.set_cons_zero, List.set_cons_succ]
              refine held_yes (i := 7) 86 (v := ?_) rfl rfl (by kernel_rfl) (by kernel_rfl) (by kernel_rfl) (fun _ _ _ _ _ h => h) (by rfl) (by assumption) ?_ ?_
              rotate_left 1
              · intro w hSw
                (try dsimp only at hSw)
                first | (go_simp; done) | (go_simp; with_reducible rfl)
              try simp only [Act.put, List.setIfInBounds_toArray, List.set_cons_zero, List.set_cons_succ]
              refine held_yes (i := 8) 87 (v := ?_) rfl rfl (by kernel_rfl) (by kernel_rfl) (by kernel_rfl) (fun _ _ _ _ _ h => h) (by rfl) (by assumption) ?_ ?_
              rotate_left 1
              · intro w hSw
                (try dsimp only at hSw)
                first | (go_simp; done) | (go_simp; with_reducible rfl)
              try simp only [Act.put, List.setIfInBounds_toArray, List.set_cons_zero, List.set_cons_succ]
              refine held_yes (i := 9) 88 (v := ?_) rfl rfl (by kernel_rfl) (by kernel_rfl) (by kernel_rfl) (fun _ _ _ _ _ h => h) (by rfl) (by assumption) ?_ ?_
              rotate_left 1
              · intro w hSw
                (try dsimp only at hSw)
                first | (go_simp; done) | (go_simp; with_reducible rfl)
              try simp only [Act.put, List.setIfInBounds_toArray, List.set_cons_zero, List.set_cons_succ]
              refine held_yes (i := 10) 89 (v := ?_) rfl rfl (by kernel_rfl) (by kernel_rfl) (by kernel_rfl) (fun _ _ _ _ _ h => h) (by rfl) (by assumption) ?_ ?_
              rotate_left 1
              · intro w hSw
                (try dsimp only at hSw)
                first | (go_simp; done) | (go_simp; with_reducible rfl)
              try simp only [Act.put, List.setIfInBounds_toArray, List.set_cons_zero, List.set_cons_succ]
              refine held_yes (i := 11) 90 (v := ?_) rfl rfl (by kernel_rfl) (by kernel_rfl) (by kernel_rfl) (fun _ _ _ _ _ h => h) (by rfl) (by assumption) ?_ ?_
              rotate_left 1
              · intro w hSw
                (try dsimp only at hSw)
                first | (go_simp; done) | (go_simp; with_reducible rfl)
              try simp only [Act.put, List.setIfInBounds_toArray, List.set_cons_zero, List.set_cons_succ]
              refine held_yes (i := 12) 91 (v := ?_) rfl rfl (by kernel_rfl) (by kernel_rfl) (by kernel_rfl) (fun _ _ _ _ _ h => h) (by rfl) (by assumption) ?_ ?_
              rotate_left 1
              · intro w hSw
                (try dsimp only at hSw)
                first | (go_simp; done) | (go_simp; with_reducible rfl)
              try simp only [Act.put, List.setIfInBounds_toArray, List.set_cons_zero, List.set_cons_succ]
              refine held_yes (i := 13) 92 (v := ?_) rfl rfl (by kernel_rfl) (by kernel_rfl) (by kernel_rfl) (fun _ _ _ _ _ h => h) (by rfl) (by assumption) ?_ ?_
              rotate_left 1
              · intro w hSw
                (try dsimp only at hSw)
                first | (go_simp; done) | (go_simp; with_reducible rfl)
              try simp only [Act.put, List.setIfInBounds_toArray, List.set_cons_zero, List.set_cons_succ]
              refine held_yes (i := 14) 93 (v := ?_) rfl rfl (by kernel_rfl) (by kernel_rfl) (by kernel_rfl) (fun _ _ _ _ _ h => h) (by rfl) (by assumption) ?_ ?_
              rotate_left 1
              · intro w hSw
                (try dsimp only at hSw)
                first | (go_simp; done) | (go_simp; with_reducible rfl)
              try simp only [Act.put, List.setIfInBounds_toArray, List.set_cons_zero, List.set_cons_succ]
              refine held_yes (i := 15) 94 (v := ?_) rfl rfl (by kernel_rfl) (by kernel_rfl) (by kernel_rfl) (fun _ _ _ _ _ h => h) (by rfl) (by assumption) ?_ ?_
              rotate_left 1
              · intro w hSw
                (try dsimp only at hSw)
                first | (go_simp; done) | (go_simp; with_reducible rfl)
              try simp only [Act.put, List.setIfInBounds_toArray, List.set_cons_zero, List.set_cons_succ]
              refine held_yes (i := 16) 95 (v := ?_) rfl rfl (by kernel_rfl) (by kernel_rfl) (by kernel_rfl) (fun _ _ _ _ _ h => h) (by rfl) (by assumption) ?_ ?_
              rotate_left 1
              · intro w hSw
                (try dsimp only at hSw)
                first | (go_simp; done) | (go_simp; with_reducible rfl)
              try simp only [Act.put, List.setIfInBounds_toArray, List.set_cons_zero, List.set_cons_succ]
              refine held_yes (i := 17) 96 (v := ?_) rfl rfl (by kernel_rfl) (by kernel_rfl) (by kernel_rfl) (fun _ _ _ _ _ h => h) (by rfl) (by assumption) ?_ ?_
              rotate_left 1
              · intro w hSw
                (try dsimp only at hSw)
                first | (go_simp; done) | (go_simp; with_reducible rfl)
              try simp only [Act.put, List.setIfInBounds_toArray, List.set_cons_zero, List.set_cons_succ]
              refine held_yes (i := 18) 97 (v := ?_) rfl rfl (by kernel_rfl) (by kernel_rfl) (by kernel_rfl) (fun _ _ _ _ _ h => h) (by rfl) (by assumption) ?_ ?_
              rotate_left 1
              · intro w hSw
                (try dsimp only at hSw)
                first | (go_simp; done) | (go_simp; with_reducible rfl)
              try simp only [Act.put, List.setIfInBounds_toArray, List.set_cons_zero, List.set_cons_succ]
              refine held_yes (i := 19) 98 (v := ?_) rfl rfl (by kernel_rfl) (by kernel_rfl) (by kernel_rfl) (fun _ _ _ _ _ h => h) (by rfl) (by assumption) ?_ ?_
              rotate_left 1
              · intro w hSw
                (try dsimp only at hSw)
                first | (go_simp; done) | (go_simp; with_reducible rfl)
              try simp only [Act.put, List.setIfInBounds_toArray, List.set_cons_zero, List.set_cons_succ]
              refine held_yes (i := 20) 99 (v := ?_) rfl rfl (by kernel_rfl) (by kernel_rfl) (by kernel_rfl) (fun _ _ _ _ _ h => h) (by rfl) (by assumption) ?_ ?_
              rotate_left 1
              · intro w hSw
                (try dsimp only at hSw)
                first | (go_simp; done) | (go_simp; with_reducible rfl)
              try simp only [Act.put, List.setIfInBounds_toArray, List.set_cons_zero, List.set_cons_succ]
              refine held_yes (i := 21) 100 (v := ?_) rfl rfl (by kernel_rfl) (by kernel_rfl) (by kernel_rfl) (fun _ _ _ _ _ h => h) (by rfl) (by assumption) ?_ ?_
              rotate_left 1
              · intro w hSw
                (try dsimp only at hSw)
                first | (go_simp; done) | (go_simp; with_reducible rfl)
              try simp only [Act.put, List.setIfInBounds_toArray, List.set_cons_zero, List.set_cons_succ]
              refine held_yes (i := 22) 101 (v := ?_) rfl rfl (by kernel_rfl) (by kernel_rfl) (by kernel_rfl) (fun _ _ _ _ _ h => h) (by rfl) (by assumption) ?_ ?_
              rotate_left 1
              · intro w hSw
                (try dsimp only at hSw)
                first | (go_simp; done) | (go_simp; with_reducible rfl)
              try simp only [Act.put, List.setIfInBounds_toArray, List.set_cons_zero, List.set_cons_succ]
              refine held_yes (i := 23) 78 (v := ?_) rfl rfl (by kernel_rfl) (by kernel_rfl) (by kernel_rfl) (fun _ _ _ _ _ h => h) (by rfl) (by assumption) ?_ ?_
              rotate_left 1
              · intro w hSw
                (try dsimp only at hSw)
                first | (go_simp; done) | (go_simp; with_reducible rfl)
              try simp only [Act.put, List.setIfInBounds_toArray, List.set_cons_zero, List.set_cons_succ]
              refine wpAnyH_done (by kernel_rfl) ?_ _
              refine NoPanic.normal ?_
              have hC := hC.drew
              clear hHeld
              generalize wr.drew = w1 at hC ⊢
              obtain ⟨v2, hv2⟩ : ∃ v, Op.bytesLess y.pa.toList x.pa.toList = v := ⟨_, rfl⟩
              go_wp2_with fail
              cases v2 with
              | true =>
                refine wp_region_noPanic ?_
                refine wp_region_held_drew (S := fun w' => w'.cell? ⟨b, off + p * 3, none⟩ = some (.string x.pa) ∧ w'.cell? ⟨b, off + p * 3 + 1, none⟩ = some (.bool x.dr) ∧ w'.cell? ⟨b, off + p * 3 + 2, none⟩ = some (.slice x.ad x.zs.length x.cp) ∧ w'.cell? ⟨b2, off2 + q * 3, none⟩ = some (.string y.pa) ∧ w'.cell? ⟨b2, off2 + q * 3 + 1, none⟩ = some (.bool y.dr) ∧ w'.cell? ⟨b2, off2 + q * 3 + 2, none⟩ = some (.slice y.ad y.zs.length y.cp)) (by kernel_rfl) ?_ (fun hHeld => ?_)
                · exact ⟨(hC.bel.cell (p := ⟨b, off + p * 3, none⟩) hbl).trans k0, (hC.bel.cell (p := ⟨b, off + p * 3 + 1, none⟩) hbl).trans k1, (hC.bel.cell (p := ⟨b, off + p * 3 + 2, none⟩) hbl).trans k2, (hC.bel.cell (p := ⟨b2, off2 + q * 3, none⟩) hbl2).trans l0, (hC.bel.cell (p := ⟨b2, off2 + q * 3 + 1, none⟩) hbl2).trans l1, (hC.bel.cell (p := ⟨b2, off2 + q * 3 + 2, none⟩) hbl2).trans l2⟩
                refine held_yes (i := 0) 114 (v := ?_) rfl rfl (by kernel_rfl) (by kernel_rfl) (by kernel_rfl) (fun _ _ _ _ _ h => h) (by rfl) (by assumption) ?_ ?_
                rotate_left 1
                · intro w hSw
                  (try dsimp only at hSw)
                  first | (go_simp; done) | (go_simp; with_reducible rfl)
                try simp only [Act.put, List.setIfInBounds_toArray, List.set_cons_zero, List.set_cons_succ]
                refine held_yes (i := 1) 115 (v := ?_) rfl rfl (by kernel_rfl) (by kernel_rfl) (by kernel_rfl) (fun _ _ _ _ _ h => h) (by rfl) (by assumption) ?_ ?_
                rotate_left 1
                · intro w hSw
                  (try dsimp only at hSw)
                  first | (go_simp; done) | (go_simp; with_reducible rfl)
                try simp only [Act.put, List.setIfInBounds_toArray, List.set_cons_zero, List.set_cons_succ]
                refine held_yes (i := 2) 116 (v := ?_) rfl rfl (by kernel_rfl) (by kernel_rfl) (by kernel_rfl) (fun _ _ _ _ _ h => h) (by rfl) (by assumption) ?_ ?_
                rotate_left 1
                · intro w hSw
                  (try dsimp only at hSw)
                  first | (go_simp; done) | (go_simp; with_reducible rfl)
                try simp only [Act.put, List.setIfInBounds_toArray, List.set_cons_zero, List.set_cons_succ]
                refine held_yes (i := 3) 117 (v := ?_) rfl rfl (by kernel_rfl) (by kernel_rfl) (by kernel_rfl) (fun _ _ _ _ _ h => h) (by rfl) (by assumption) ?_ ?_
                rotate_left 1
                · intro w hSw
                  (try dsimp only at hSw)
                  first | (go_simp; done) | (go_simp; with_reducible rfl)
                try simp only [Act.put, List.setIfInBounds_toArray, List.set_cons_zero, List.set_cons_succ]
                refine held_yes (i := 4) 118 (v := ?_) rfl rfl (by kernel_rfl) (by kernel_rfl) (by kernel_rfl) (fun _ _ _ _ _ h => h) (by rfl) (by assumption) ?_ ?_
                rotate_left 1
                · intro w hSw
                  (try dsimp only at hSw)
                  first | (go_simp; done) | (go_simp; with_reducible rfl)
                try simp only [Act.put, List.setIfInBounds_toArray, List.set_cons_zero, List.set_cons_succ]
                refine held_yes (i := 5) 119 (v := ?_) rfl rfl (by kernel_rfl) (by kernel_rfl) (by kernel_rfl) (fun _ _ _ _ _ h => h) (by rfl) (by assumption) ?_ ?_
                rotate_left 1
                · intro w hSw
                  (try dsimp only at hSw)
                  first | (go_simp; done) | (go_simp; with_reducible rfl)
                try simp only [Act.put, List.setIfInBounds_toArray, List.set_cons_zero, List.set_cons_succ]
                refine held_yes (i := 6) 120 (v := ?_) rfl rfl (by kernel_rfl) (by kernel_rfl) (by kernel_rfl) (fun _ _ _ _ _ h => h) (by rfl) (by assumption) ?_ ?_
                rotate_left 1
                · intro w hSw
                  (try dsimp only at hSw)
                  first | (go_simp; done) | (go_simp; with_reducible rfl)
                try simp only [Act.put, List.setIfInBounds_toArray, List.set_cons_zero, List.set_cons_succ]
                refine held_yes (i := 7) 121 (v := ?_) rfl rfl (by kernel_rfl) (by kernel_rfl) (by kernel_rfl) (fun _ _ _ _ _ h => h) (by rfl) (by assumption) ?_ ?_
                rotate_left 1
                · intro w hSw
                  (try dsimp only at hSw)
                  first | (go_simp; done) | (go_simp; with_reducible rfl)
                try simp only [Act.put, List.setIfInBounds_toArray, List.set_cons_zero, List.set_cons_succ]
                refine held_yes (i := 8) 122 (v := ?_) rfl rfl (by kernel_rfl) (by kernel_rfl) (by kernel_rfl) (fun _ _ _ _ _ h => h) (by rfl) (by assumption) ?_ ?_
                rotate_left 1
                · intro w hSw
                  (try dsimp only at hSw)
                  first | (go_simp; done) | (go_simp; with_reducible rfl)
                try simp only [Act.put, List.setIfInBounds_toArray, List.set_cons_zero, List.set_cons_succ]
                refine held_yes (i := 9) 123 (v := ?_) rfl rfl (by kernel_rfl) (by kernel_rfl) (by kernel_rfl) (fun _ _ _ _ _ h => h) (by rfl) (by assumption) ?_ ?_
                rotate_left 1
                · intro w hSw
                  (try dsimp only at hSw)
                  first | (go_simp; done) | (go_simp; with_reducible rfl)
                try simp only [Act.put, List.setIfInBounds_toArray, List.set_cons_zero, List.set_cons_succ]
                refine held_yes (i := 10) 124 (v := ?_) rfl rfl (by kernel_rfl) (by kernel_rfl) (by kernel_rfl) (fun _ _ _ _ _ h => h) (by rfl) (by assumption) ?_ ?_
                rotate_left 1
                · intro w hSw
                  (try dsimp only at hSw)
                  first | (go_simp; done) | (go_simp; with_reducible rfl)
                try simp only [Act.put, List.setIfInBounds_toArray, List.set_cons_zero, List.set_cons_succ]
                refine held_yes (i := 11) 125 (v := ?_) rfl rfl (by kernel_rfl) (by kernel_rfl) (by kernel_rfl) (fun _ _ _ _ _ h => h) (by rfl) (by assumption) ?_ ?_
                rotate_left 1
                · intro w hSw
                  (try dsimp only at hSw)
                  first | (go_simp; done) | (go_simp; with_reducible rfl)
                try simp only [Act.put, List.setIfInBounds_toArray, List.set_cons_zero, List.set_cons_succ]
                refine held_yes (i := 12) 126 (v := ?_) rfl rfl (by kernel_rfl) (by kernel_rfl) (by kernel_rfl) (fun _ _ _ _ _ h => h) (by rfl) (by assumption) ?_ ?_
                rotate_left 1
                · intro w hSw
                  (try dsimp only at hSw)
                  first | (go_simp; done) | (go_simp; with_reducible rfl)
                try simp only [Act.put, List.setIfInBounds_toArray, List.set_cons_zero, List.set_cons_succ]
                refine held_yes (i := 13) 127 (v := ?_) rfl rfl (by kernel_rfl) (by kernel_rfl) (by kernel_rfl) (fun _ _ _ _ _ h => h) (by rfl) (by assumption) ?_ ?_
                rotate_left 1
                · intro w hSw
                  (try dsimp only at hSw)
                  first | (go_simp; done) | (go_simp; with_reducible rfl)
                try simp only [Act.put, List.setIfInBounds_toArray, List.set_cons_zero, List.set_cons_succ]
                refine held_yes (i := 14) 128 (v := ?_) rfl rfl (by kernel_rfl) (by kernel_rfl) (by kernel_rfl) (fun _ _ _ _ _ h => h) (by rfl) (by assumption) ?_ ?_
                rotate_left 1
                · intro w hSw
                  (try dsimp only at hSw)
                  first | (go_simp; done) | (go_simp; with_reducible rfl)
                try simp only [Act.put, List.setIfInBounds_toArray, List.set_cons_zero, List.set_cons_succ]
                refine held_yes (i := 15) 129 (v := ?_) rfl rfl (by kernel_rfl) (by kernel_rfl) (by kernel_rfl) (fun _ _ _ _ _ h => h) (by rfl) (by assumption) ?_ ?_
                rotate_left 1
                · intro w hSw
                  (try dsimp only at hSw)
                  first | (go_simp; done) | (go_simp; with_reducible rfl)
                try simp only [Act.put, List.setIfInBounds_toArray, List.set_cons_zero, List.set_cons_succ]
                refine held_yes (i := 16) 130 (v := ?_) rfl rfl (by kernel_rfl) (by kernel_rfl) (by kernel_rfl) (fun _ _ _ _ _ h => h) (by rfl) (by assumption) ?_ ?_
                rotate_left 1
                · intro w hSw
                  (try dsimp only at hSw)
                  first | (go_simp; done) | (go_simp; with_reducible rfl)
                try simp only [Act.put, List.setIfInBounds_toArray, List.set_cons_zero, List.set_cons_succ]
                refine held_yes (i := 17) 113 (v := ?_) rfl rfl (by kernel_rfl) (by kernel_rfl) (by kernel_rfl) (fun _ _ _ _ _ h => h) (by rfl) (by assumption) ?_ ?_
                rotate_left 1
                · intro w hSw
                  (try dsimp only at hSw)
                  first | (go_simp; done) | (go_simp; with_reducible rfl)
                try simp only [Act.put, List.setIfInBounds_toArray, List.set_cons_zero, List.set_cons_succ]
                refine wpAnyH_done (by kernel_rfl) ?_ _
                refine NoPanic.normal ?_
                have hC := hC.drew
                clear hHeld
                generalize w1.drew = w2 at hC ⊢
                have d0 := (hC.bel.cell (p := ⟨b2, off2 + q * 3, none⟩) hbl2).trans l0
                have d1 := (hC.bel.cell (p := ⟨b2, off2 + q * 3 + 1, none⟩) hbl2).trans l1
                have d2 := (hC.bel.cell (p := ⟨b2, off2 + q * 3 + 2, none⟩) hbl2).trans l2
                go_wp2_with fail
                with_reducible refine (l5Copy_any y B w2 (hIn2.out.below hC.bel) (by omega)).mono ?_
                rintro e w5b ⟨a5, c5, rfl, hO5, hb5⟩
                have hC := hC.below hb5
                clear d0 d1 d2
                clear hO5 hb5
                go_wp2_with (at_builtin; refine wp_appR eltG rfl _ _ rfl hC.len rfl (hC.own.alloc _) ⟨w5b.heap.size, 0, none⟩ 1 1 [⟨1, y.pa, y.dr, a5, c5, y.zs⟩] rfl rfl (newG w5b _ rfl ⟨1, y.pa, y.dr, a5, c5, y.zs⟩) (by omega) (by have := hC.bel.size; simp; omega) ?_; intro a6 c6 w6b hR6 hG6)
                have hC := hC.push hG6 hR6
                clear hR6 hG6
                go_roundg ((n - p) + (m - (q + 1)))
                case measure => omega
                case rel => exact ⟨p, (q + 1), by omega, by omega, rfl, by go_num, by go_num, _, _, _, (L + 1), rfl, by omega, hC⟩
              | false =>
                refine wp_region_noPanic ?_
                refine wp_region_held_drew (S := fun w' => w'.cell? ⟨b, off + p * 3, none⟩ = some (.string x.pa) ∧ w'.cell? ⟨b, off + p * 3 + 1, none⟩ = some (.bool x.dr) ∧ w'.cell? ⟨b, off + p * 3 + 2, none⟩ = some (.slice x.ad x.zs.length x.cp) ∧ w'.cell? ⟨b2, off2 + q * 3, none⟩ = some (.string y.pa) ∧ w'.cell? ⟨b2, off2 + q * 3 + 1, none⟩ = some (.bool y.dr) ∧ w'.cell? ⟨b2, off2 + q * 3 + 2, none⟩ = some (.slice y.ad y.zs.length y.cp)) (by kernel_rfl) ?_ (fun hHeld => ?_)
                · exact ⟨(hC.bel.cell (p := ⟨b, off + p * 3, none⟩) hbl).trans k0, (hC.bel.cell (p := ⟨b, off + p * 3 + 1, none⟩) hbl).trans k1, (hC.bel.cell (p := ⟨b, off + p * 3 + 2, none⟩) hbl).trans k2, (hC.bel.cell (p := ⟨b2, off2 + q * 3, none⟩) hbl2).trans l0, (hC.bel.cell (p := ⟨b2, off2 + q * 3 + 1, none⟩) hbl2).trans l1, (hC.bel.cell (p := ⟨b2, off2 + q * 3 + 2, none⟩) hbl2).trans l2⟩
                refine held_yes (i := 0) 114 (v := ?_) rfl rfl (by kernel_rfl) (by kernel_rfl) (by kernel_rfl) (fun _ _ _ _ _ h => h) (by rfl) (by assumption) ?_ ?_
                rotate_left 1
                · intro w hSw
                  (try dsimp only at hSw)
                  first | (go_simp; done) | (go_simp; with_reducible rfl)
                try simp only [Act.put, List.setIfInBounds_toArray, List.set_cons_zero, List.set_cons_succ]
                refine held_yes (i := 1) 115 (v := ?_) rfl rfl (by kernel_rfl) (by kernel_rfl) (by kernel_rfl) (fun _ _ _ _ _ h => h) (by rfl) (by assumption) ?_ ?_
                rotate_left 1
                · intro w hSw
                  (try dsimp only at hSw)
                  first | (go_simp; done) | (go_simp; with_reducible rfl)
                try simp only [Act.put, List.setIfInBounds_toArray, List.set_cons_zero, List.set_cons_succ]
                refine held_yes (i := 2) 116 (v := ?_) rfl rfl (by kernel_rfl) (by kernel_rfl) (by kernel_rfl) (fun _ _ _ _ _ h => h) (by rfl) (by assumption) ?_ ?_
                rotate_left 1
                · intro w hSw
                  (try dsimp only at hSw)
                  first | (go_simp; done) | (go_simp; with_reducible rfl)
                try simp only [Act.put, List.setIfInBounds_toArray, List.set_cons_zero, List.set_cons_succ]
                refine held_yes (i := 3) 117 (v := ?_) rfl rfl (by kernel_rfl) (by kernel_rfl) (by kernel_rfl) (fun _ _ _ _ _ h => h) (by rfl) (by assumption) ?_ ?_
                rotate_left 1
                · intro w hSw
                  (try dsimp only at hSw)
                  first | (go_simp; done) | (go_simp; with_reducible rfl)
                try simp only [Act.put, List.setIfInBounds_toArray, List.set_cons_zero, List.set_cons_succ]
                refine held_yes (i := 4) 118 (v := ?_) rfl rfl (by kernel_rfl) (by kernel_rfl) (by kernel_rfl) (fun _ _ _ _ _ h => h) (by rfl) (by assumption) ?_ ?_
                rotate_left 1
                · intro w hSw
                  (try dsimp only at hSw)
                  first | (go_simp; done) | (go_simp; with_reducible rfl)
                try simp only [Act.put, List.setIfInBounds_toArray, List.set_cons_zero, List.set_cons_succ]
                refine held_yes (i := 5) 119 (v := ?_) rfl rfl (by kernel_rfl) (by kernel_rfl) (by kernel_rfl) (fun _ _ _ _ _ h => h) (by rfl) (by assumption) ?_ ?_
                rotate_left 1
                · intro w hSw
                  (try dsimp only at hSw)
                  first | (go_simp; done) | (go_simp; with_reducible rfl)
                try simp only [Act.put, List.setIfInBounds_toArray, List.set_cons_zero, List.set_cons_succ]
                refine held_yes (i := 6) 120 (v := ?_) rfl rfl (by kernel_rfl) (by kernel_rfl) (by kernel_rfl) (fun _ _ _ _ _ h => h) (by rfl) (by assumption) ?_ ?_
                rotate_left 1
                · intro w hSw
                  (try dsimp only at hSw)
                  first | (go_simp; done) | (go_simp; with_reducible rfl)
                try simp only [Act.put, List.setIfInBounds_toArray, List.set_cons_zero, List.set_cons_succ]
                refine held_yes (i := 7) 121 (v := ?_) rfl rfl (by kernel_rfl) (by kernel_rfl) (by kernel_rfl) (fun _ _ _ _ _ h => h) (by rfl) (by assumption) ?_ ?_
                rotate_left 1
                · intro w hSw
                  (try dsimp only at hSw)
                  first | (go_simp; done) | (go_simp; with_reducible rfl)
                try simp only [Act.put, List.setIfInBounds_toArray, List.set_cons_zero, List.set_cons_succ]
                refine held_yes (i := 8) 122 (v := ?_) rfl rfl (by kernel_rfl) (by kernel_rfl) (by kernel_rfl) (fun _ _ _ _ _ h => h) (by rfl) (by assumption) ?_ ?_
                rotate_left 1
                · intro w hSw
                  (try dsimp only at hSw)
                  first | (go_simp; done) | (go_simp; with_reducible rfl)
                try simp only [Act.put, List.setIfInBounds_toArray, List.set_cons_zero, List.set_cons_succ]
                refine held_yes (i := 9) 123 (v := ?_) rfl rfl (by kernel_rfl) (by kernel_rfl) (by kernel_rfl) (fun _ _ _ _ _ h => h) (by rfl) (by assumption) ?_ ?_
                rotate_left 1
                · intro w hSw
                  (try dsimp only at hSw)
                  first | (go_simp; done) | (go_simp; with_reducible rfl)
                try simp only [Act.put, List.setIfInBounds_toArray, List.set_cons_zero, List.set_cons_succ]
                refine held_yes (i := 10) 124 (v := ?_) rfl rfl (by kernel_rfl) (by kernel_rfl) (by kernel_rfl) (fun _ _ _ _ _ h => h) (by rfl) (by assumption) ?_ ?_
                rotate_left 1
                · intro w hSw
                  (try dsimp only at hSw)
                  first | (go_simp; done) | (go_simp; with_reducible rfl)
                try simp only [Act.put, List.setIfInBounds_toArray, List.set_cons_zero, List.set_cons_succ]
                refine held_yes (i := 11) 125 (v := ?_) rfl rfl (by kernel_rfl) (by kernel_rfl) (by kernel_rfl) (fun _ _ _ _ _ h => h) (by rfl) (by assumption) ?_ ?_
                rotate_left 1
                · intro w hSw
                  (try dsimp only at hSw)
                  first | (go_simp; done) | (go_simp; with_reducible rfl)
                try simp only [Act.put, List.setIfInBounds_toArray, List.set_cons_zero, List.set_cons_succ]
                refine held_yes (i := 12) 126 (v := ?_) rfl rfl (by kernel_rfl) (by kernel_rfl) (by kernel_rfl) (fun _ _ _ _ _ h => h) (by rfl) (by assumption) ?_ ?_
                rotate_left 1
                · intro w hSw
                  (try dsimp only at hSw)
                  first | (go_simp; done) | (go_simp; with_reducible rfl)
                try simp only [Act.put, List.setIfInBounds_toArray, List.set_cons_zero, List.set_cons_succ]
                refine held_yes (i := 13) 127 (v := ?_) rfl rfl (by kernel_rfl) (by kernel_rfl) (by kernel_rfl) (fun _ _ _ _ _ h => h) (by rfl) (by assumption) ?_ ?_
                rotate_left 1
                · intro w hSw
                  (try dsimp only at hSw)
                  first | (go_simp; done) | (go_simp; with_reducible rfl)
                try simp only [Act.put, List.setIfInBounds_toArray, List.set_cons_zero, List.set_cons_succ]
                refine held_yes (i := 14) 128 (v := ?_) rfl rfl (by kernel_rfl) (by kernel_rfl) (by kernel_rfl) (fun _ _ _ _ _ h => h) (by rfl) (by assumption) ?_ ?_
                rotate_left 1
                · intro w hSw
                  (try dsimp only at hSw)
                  first | (go_simp; done) | (go_simp; with_reducible rfl)
                try simp only [Act.put, List.setIfInBounds_toArray, List.set_cons_zero, List.set_cons_succ]
                refine held_yes (i := 15) 129 (v := ?_) rfl rfl (by kernel_rfl) (by kernel_rfl) (by kernel_rfl) (fun _ _ _ _ _ h => h) (by rfl) (by assumption) ?_ ?_
                rotate_left 1
                · intro w hSw
                  (try dsimp only at hSw)
                  first | (go_simp; done) | (go_simp; with_reducible rfl)
                try simp only [Act.put, List.setIfInBounds_toArray, List.set_cons_zero, List.set_cons_succ]
                refine held_yes (i := 16) 130 (v := ?_) rfl rfl (by kernel_rfl) (by kernel_rfl) (by kernel_rfl) (fun _ _ _ _ _ h => h) (by rfl) (by assumption) ?_ ?_
                rotate_left 1
                · intro w hSw
                  (try dsimp only at hSw)
                  first | (go_simp; done) | (go_simp; with_reducible rfl)
                try simp only [Act.put, List.setIfInBounds_toArray, List.set_cons_zero, List.set_cons_succ]
                refine held_yes (i := 17) 113 (v := ?_) rfl rfl (by kernel_rfl) (by kernel_rfl) (by kernel_rfl) (fun _ _ _ _ _ h => h) (by rfl) (by assumption) ?_ ?_
                rotate_left 1
                · intro w hSw
                  (try dsimp only at hSw)
                  first | (go_simp; done) | (go_simp; with_reducible rfl)
                try simp only [Act.put, List.setIfInBounds_toArray, List.set_cons_zero, List.set_cons_succ]
                refine wpAnyH_done (by kernel_rfl) ?_ _
                refine NoPanic.normal ?_
                have hC := hC.drew
                clear hHeld
                generalize w1.drew = w2 at hC ⊢
                obtain ⟨v3, hv3⟩ : ∃ v, (x.dr == y.dr) = v := ⟨_, rfl⟩
                go_wp2_with fail
                cases v3 with
                | true =>
                  refine wp_region_noPanic ?_
                  refine wp_region_held_drew (S := fun w' => w'.cell? ⟨b, off + p * 3, none⟩ = some (.string x.pa) ∧ w'.cell? ⟨b, off + p * 3 + 1, none⟩ = some (.bool x.dr) ∧ w'.cell? ⟨b, off + p * 3 + 2, none⟩ = some (.slice x.ad x.zs.length x.cp) ∧ w'.cell? ⟨b2, off2 + q * 3, none⟩ = some (.string y.pa) ∧ w'.cell? ⟨b2, off2 + q * 3 + 1, none⟩ = some (.bool y.dr) ∧ w'.cell? ⟨b2, off2 + q * 3 + 2, none⟩ = some (.slice y.ad y.zs.length y.cp)) (by kernel_rfl) ?_ (fun hHeld => ?_)
                  · exact ⟨(hC.bel.cell (p := ⟨b, off + p * 3, none⟩) hbl).trans k0, (hC.bel.cell (p := ⟨b, off + p * 3 + 1, none⟩) hbl).trans k1, (hC.bel.cell (p := ⟨b, off + p * 3 + 2, none⟩) hbl).trans k2, (hC.bel.cell (p := ⟨b2, off2 + q * 3, none⟩) hbl2).trans l0, (hC.bel.cell (p := ⟨b2, off2 + q * 3 + 1, none⟩) hbl2).trans l1, (hC.bel.cell (p := ⟨b2, off2 + q * 3 + 2, none⟩) hbl2).trans l2⟩
                  refine held_yes (i := 0) 29 (v := ?_) rfl rfl (by kernel_rfl) (by kernel_rfl) (by kernel_rfl) (fun _ _ _ _ _ h => h) (by rfl) (by assumption) ?_ ?_
                  rotate_left 1
                  · intro w hSw
                    (try dsimp only at hSw)
                    first | (go_simp; done) | (go_simp; with_reducible rfl)
                  try simp only [Act.put, List.setIfInBounds_toArray, List.set_cons_zero, List.set_cons_succ]
                  refine held_yes (i := 1) 30 (v := ?_) rfl rfl (by kernel_rfl) (by kernel_rfl) (by kernel_rfl) (fun _ _ _ _ _ h => h) (by rfl) (by assumption) ?_ ?_
                  rotate_left 1
                  · intro w hSw
                    (try dsimp only at hSw)
                    first | (go_simp; done) | (go_simp; with_reducible rfl)
                  try simp only [Act.put, List.setIfInBounds_toArray, List.set_cons_zero, List.set_cons_succ]
                  refine held_yes (i := 2) 31 (v := ?_) rfl rfl (by kernel_rfl) (by kernel_rfl) (by kernel_rfl) (fun _ _ _ _ _ h => h) (by rfl) (by assumption) ?_ ?_
                  rotate_left 1
                  · intro w hSw
                    (try dsimp only at hSw)
                    first | (go_simp; done) | (go_simp; with_reducible rfl)
                  try simp only [Act.put, List.setIfInBounds_toArray, List.set_cons_zero, List.set_cons_succ]
                  refine held_yes (i := 3) 32 (v := ?_) rfl rfl (by kernel_rfl) (by kernel_rfl) (by kernel_rfl) (fun _ _ _ _ _ h => h) (by rfl) (by assumption) ?_ ?_
                  rotate_left 1
                  · intro w hSw
                    (try dsimp only at hSw)
                    first | (go_simp; done) | (go_simp; with_reducible rfl)
                  try simp only [Act.put, List.setIfInBounds_toArray, List.set_cons_zero, List.set_cons_succ]
                  refine held_yes (i := 4) 33 (v := ?_) rfl rfl (by kernel_rfl) (by kernel_rfl) (by kernel_rfl) (fun _ _ _ _ _ h => h) (by rfl) (by assumption) ?_ ?_
                  rotate_left 1
                  · intro w hSw
                    (try dsimp only at hSw)
                    first | (go_simp; done) | (go_simp; with_reducible rfl)
                  try simp only [Act.put, List.setIfInBounds_toArray, List.set_cons_zero, List.set_cons_succ]
                  refine held_yes (i := 5) 34 (v := ?_) rfl rfl (by kernel_rfl) (by kernel_rfl) (by kernel_rfl) (fun _ _ _ _ _ h => h) (by rfl) (by assumption) ?_ ?_
                  rotate_left 1
                  · intro w hSw
                    (try dsimp only at hSw)
                    first | (go_simp; done) | (go_simp; with_reducible rfl)
                  try simp only [Act.put, List.setIfInBounds_toArray, List.set_cons_zero, List.set_cons_succ]
                  refine held_yes (i := 6) 35 (v := ?_) rfl rfl (by kernel_rfl) (by kernel_rfl) (by kernel_rfl) (fun _ _ _ _ _ h => h) (by rfl) (by assumption) ?_ ?_
                  rotate_left 1
                  · intro w hSw
                    (try dsimp only at hSw)
                    first | (go_simp; done) | (go_simp; with_reducible rfl)
                  try simp only [Act.put, List.setIfInBounds_toArray, List.set_cons_zero, List.set_cons_succ]
                  refine held_yes (i := 7) 36 (v := ?_) rfl rfl (by kernel_rfl) (by kernel_rfl) (by kernel_rfl) (fun _ _ _ _ _ h => h) (by rfl) (by assumption) ?_ ?_
                  rotate_left 1
                  · intro w hSw
                    (try dsimp only at hSw)
                    first | (go_simp; done) | (go_simp; with_reducible rfl)
                  try simp only [Act.put, List.setIfInBounds_toArray, List.set_cons_zero, List.set_cons_succ]
                  refine held_yes (i := 8) 37 (v := ?_) rfl rfl (by kernel_rfl) (by kernel_rfl) (by kernel_rfl) (fun _ _ _ _ _ h => h) (by rfl) (by assumption) ?_ ?_
                  rotate_left 1
                  · intro w hSw
                    (try dsimp only at hSw)
                    first | (go_simp; done) | (go_simp; with_reducible rfl)
                  try simp only [Act.put, List.setIfInBounds_toArray, List.set_cons_zero, List.set_cons_succ]
                  refine held_yes (i := 9) 38 (v := ?_) rfl rfl (by kernel_rfl) (by kernel_rfl) (by kernel_rfl) (fun _ _ _ _ _ h => h) (by rfl) (by assumption) ?_ ?_
                  rotate_left 1
                  · intro w hSw
                    (try dsimp only at hSw)
                    first | (go_simp; done) | (go_simp; with_reducible rfl)
                  try simp only [Act.put, List.setIfInBounds_toArray, List.set_cons_zero, List.set_cons_succ]
                  refine held_yes (i := 10) 39 (v := ?_) rfl rfl (by kernel_rfl) (by kernel_rfl) (by kernel_rfl) (fun _ _ _ _ _ h => h) (by rfl) (by assumption) ?_ ?_
                  rotate_left 1
                  · intro w hSw
                    (try dsimp only at hSw)
                    first | (go_simp; done) | (go_simp; with_reducible rfl)
                  try simp only [Act.put, List.setIfInBounds_toArray, List.set_cons_zero, List.set_cons_succ]
                  refine wpAnyH_done (by kernel_rfl) ?_ _
                  refine NoPanic.normal ?_
                  have hC := hC.drew
                  clear hHeld
                  generalize w2.drew = w3 at hC ⊢
                  go_wp2_with fail
                  refine wp_region_noPanic ?_
                  refine wp_region_held_drew (S := fun w' => w'.cell? ⟨b, off + p * 3, none⟩ = some (.string x.pa) ∧ w'.cell? ⟨b, off + p * 3 + 1, none⟩ = some (.bool x.dr) ∧ w'.cell? ⟨b, off + p * 3 + 2, none⟩ = some (.slice x.ad x.zs.length x.cp) ∧ w'.cell? ⟨b2, off2 + q * 3, none⟩ = some (.string y.pa) ∧ w'.cell? ⟨b2, off2 + q * 3 + 1, none⟩ = some (.bool y.dr) ∧ w'.cell? ⟨b2, off2 + q * 3 + 2, none⟩ = some (.slice y.ad y.zs.length y.cp)) (by kernel_rfl) ?_ (fun hHeld => ?_)
                  · exact ⟨(hC.bel.cell (p := ⟨b, off + p * 3, none⟩) hbl).trans k0, (hC.bel.cell (p := ⟨b, off + p * 3 + 1, none⟩) hbl).trans k1, (hC.bel.cell (p := ⟨b, off + p * 3 + 2, none⟩) hbl).trans k2, (hC.bel.cell (p := ⟨b2, off2 + q * 3, none⟩) hbl2).trans l0, (hC.bel.cell (p := ⟨b2, off2 + q * 3 + 1, none⟩) hbl2).trans l1, (hC.bel.cell (p := ⟨b2, off2 + q * 3 + 2, none⟩) hbl2).trans l2⟩
                  have hC := hC.drew
                  generalize w3.drew = w4 at hC hHeld ⊢
                  refine held_yes (i := 0) 55 (v := ?_) rfl rfl (by kernel_rfl) (by kernel_rfl) (by kernel_rfl) (fun _ _ _ _ _ h => h) (by rfl) (by assumption) ?_ ?_
                  rotate_left 1
                  · intro w hSw
                    (try dsimp only at hSw)
                    first | (go_simp; done) | (go_simp; with_reducible rfl)
                  try simp only [Act.put, List.setIfInBounds_toArray, List.set_cons_zero, List.set_cons_succ]
                  refine held_yes (i := 1) 56 (v := ?_) rfl rfl (by kernel_rfl) (by kernel_rfl) (by kernel_rfl) (fun _ _ _ _ _ h => h) (by rfl) (by assumption) ?_ ?_
                  rotate_left 1
                  · intro w hSw
                    (try dsimp only at hSw)
                    first | (go_simp; done) | (go_simp; with_reducible rfl)
                  try simp only [Act.put, List.setIfInBounds_toArray, List.set_cons_zero, List.set_cons_succ]
                  refine held_yes (i := 2) 57 (v := ?_) rfl rfl (by kernel_rfl) (by kernel_rfl) (by kernel_rfl) (fun _ _ _ _ _ h => h) (by rfl) (by assumption) ?_ ?_
                  rotate_left 1
                  · intro w hSw
                    (try dsimp only at hSw)
                    first | (go_simp; done) | (go_simp; with_reducible rfl)
                  try simp only [Act.put, List.setIfInBounds_toArray, List.set_cons_zero, List.set_cons_succ]
                  refine held_yes (i := 3) 58 (v := ?_) rfl rfl (by kernel_rfl) (by kernel_rfl) (by kernel_rfl) (fun _ _ _ _ _ h => h) (by rfl) (by assumption) ?_ ?_
                  rotate_left 1
                  · intro w hSw
                    (try dsimp only at hSw)
                    first | (go_simp; done) | (go_simp; with_reducible rfl)
                  try simp only [Act.put, List.setIfInBounds_toArray, List.set_cons_zero, List.set_cons_succ]
                  refine held_yes (i := 4) 59 (v := ?_) rfl rfl (by kernel_rfl) (by kernel_rfl) (by kernel_rfl) (fun _ _ _ _ _ h => h) (by rfl) (by assumption) ?_ ?_
                  rotate_left 1
                  · intro w hSw
                    (try dsimp only at hSw)
                    first | (go_simp; done) | (go_simp; with_reducible rfl)
                  try simp only [Act.put, List.setIfInBounds_toArray, List.set_cons_zero, List.set_cons_succ]
                  refine held_yes (i := 5) 60 (v := ?_) rfl rfl (by kernel_rfl) (by kernel_rfl) (by kernel_rfl) (fun _ _ _ _ _ h => h) (by rfl) (by assumption) ?_ ?_
                  rotate_left 1
                  · intro w hSw
                    (try dsimp only at hSw)
                    first | (go_simp; done) | (go_simp; with_reducible rfl)
                  try simp only [Act.put, List.setIfInBounds_toArray, List.set_cons_zero, List.set_cons_succ]
                  refine held_yes (i := 6) 61 (v := ?_) rfl rfl (by kernel_rfl) (by kernel_rfl) (by kernel_rfl) (fun _ _ _ _ _ h => h) (by rfl) (by assumption) ?_ ?_
                  rotate_left 1
                  · intro w hSw
                    (try dsimp only at hSw)
                    first | (go_simp; done) | (go_simp; with_reducible rfl)
                  try simp only [Act.put, List.setIfInBounds_toArray, List.set_cons_zero, List.set_cons_succ]
                  refine held_yes (i := 7) 62 (v := ?_) rfl rfl (by kernel_rfl) (by kernel_rfl) (by kernel_rfl) (fun _ _ _ _ _ h => h) (by rfl) (by assumption) ?_ ?_
                  rotate_left 1
                  · intro w hSw
                    (try dsimp only at hSw)
                    first | (go_simp; done) | (go_simp; with_reducible rfl)
                  try simp only [Act.put, List.setIfInBounds_toArray, List.set_cons_zero, List.set_cons_succ]
                  refine wpAnyH_ready (rs := [8]) (by kernel_rfl) (by simp) ?_
                  refine AllReadyH.cons rfl (fun K hK => ?_) AllReadyH.nil
                  go_simp
                  with_reducible refine (l13Same_any x y w4 (hIn.out.below hC.bel).rd (hIn2.out.below hC.bel).rd (by omega) (by omega)).mono ?_
                  rintro e w5 ⟨v3, rfl, hb5⟩
                  have hC := hC.below hb5
                  clear hb5
                  go_wp2_with fail
                  refine hK.out _ _ ?_ (fun hHeld => ?_)
                  · exact ⟨(hC.bel.cell (p := ⟨b, off + p * 3, none⟩) hbl).trans k0, (hC.bel.cell (p := ⟨b, off + p * 3 + 1, none⟩) hbl).trans k1, (hC.bel.cell (p := ⟨b, off + p * 3 + 2, none⟩) hbl).trans k2, (hC.bel.cell (p := ⟨b2, off2 + q * 3, none⟩) hbl2).trans l0, (hC.bel.cell (p := ⟨b2, off2 + q * 3 + 1, none⟩) hbl2).trans l1, (hC.bel.cell (p := ⟨b2, off2 + q * 3 + 2, none⟩) hbl2).trans l2⟩
                  clear hK K
                  try simp only [Act.put, List.setIfInBounds_toArray, List.set_cons_zero, List.set_cons_succ]
                  refine held_yes (i := 9) 64 (v := ?_) rfl rfl (by kernel_rfl) (by kernel_rfl) (by kernel_rfl) (fun _ _ _ _ _ h => h) (by rfl) (by assumption) ?_ ?_
                  rotate_left 1
                  · intro w hSw
                    (try dsimp only at hSw)
                    first | (go_simp; done) | (go_simp; with_reducible rfl)
                  try simp only [Act.put, List.setIfInBounds_toArray, List.set_cons_zero, List.set_cons_succ]
                  refine wpAnyH_done (by kernel_rfl) ?_ _
                  refine NoPanic.normal ?_
                  clear hHeld
                  cases v3 with
                  | true =>
                    go_wp2_with fail
                    go_roundg ((n - (p + 1)) + (m - (q + 1)))
                    case measure => omega
                    case rel => exact ⟨(p + 1), (q + 1), by omega, by omega, rfl, by go_num, by go_num, _, _, _, L, rfl, by omega, hC⟩
                  | false =>
                    have d0 := (hC.bel.cell (p := ⟨b2, off2 + q * 3, none⟩) hbl2).trans l0
                    have d1 := (hC.bel.cell (p := ⟨b2, off2 + q * 3 + 1, none⟩) hbl2).trans l1
                    have d2 := (hC.bel.cell (p := ⟨b2, off2 + q * 3 + 2, none⟩) hbl2).trans l2
                    go_wp2_with fail
                    with_reducible refine (l5Copy_any y B w5 (hIn2.out.below hC.bel) (by omega)).mono ?_
                    rintro e w5z ⟨a5, c5, rfl, hO5, hb5⟩
                    have hC := hC.below hb5
                    clear d0 d1 d2
                    clear hO5 hb5
                    go_wp2_with (at_builtin; refine wp_appR eltG rfl _ _ rfl hC.len rfl (hC.own.alloc _) ⟨w5z.heap.size, 0, none⟩ 1 1 [⟨3, y.pa, y.dr, a5, c5, y.zs⟩] rfl rfl (newG w5z _ rfl ⟨3, y.pa, y.dr, a5, c5, y.zs⟩) (by omega) (by have := hC.bel.size; simp; omega) ?_; intro a6 c6 w6z hR6 hG6)
                    have hC := hC.push hG6 hR6
                    clear hR6 hG6
                    go_roundg ((n - (p + 1)) + (m - (q + 1)))
                    case measure => omega
                    case rel => exact ⟨(p + 1), (q + 1), by omega, by omega, rfl, by go_num, by go_num, _, _, _, (L + 1), rfl, by omega, hC⟩
                | false =>
                  refine wp_region_noPanic ?_
                  refine wp_region_held_drew (S := fun w' => w'.cell? ⟨b, off + p * 3, none⟩ = some (.string x.pa) ∧ w'.cell? ⟨b, off + p * 3 + 1, none⟩ = some (.bool x.dr) ∧ w'.cell? ⟨b, off + p * 3 + 2, none⟩ = some (.slice x.ad x.zs.length x.cp) ∧ w'.cell? ⟨b2, off2 + q * 3, none⟩ = some (.string y.pa) ∧ w'.cell? ⟨b2, off2 + q * 3 + 1, none⟩ = some (.bool y.dr) ∧ w'.cell? ⟨b2, off2 + q * 3 + 2, none⟩ = some (.slice y.ad y.zs.length y.cp)) (by kernel_rfl) ?_ (fun hHeld => ?_)
                  · exact ⟨(hC.bel.cell (p := ⟨b, off + p * 3, none⟩) hbl).trans k0, (hC.bel.cell (p := ⟨b, off + p * 3 + 1, none⟩) hbl).trans k1, (hC.bel.cell (p := ⟨b, off + p * 3 + 2, none⟩) hbl).trans k2, (hC.bel.cell (p := ⟨b2, off2 + q * 3, none⟩) hbl2).trans l0, (hC.bel.cell (p := ⟨b2, off2 + q * 3 + 1, none⟩) hbl2).trans l1, (hC.bel.cell (p := ⟨b2, off2 + q * 3 + 2, none⟩) hbl2).trans l2⟩
                  refine held_yes (i := 0) 29 (v := ?_) rfl rfl (by kernel_rfl) (by kernel_rfl) (by kernel_rfl) (fun _ _ _ _ _ h => h) (by rfl) (by assumption) ?_ ?_
                  rotate_left 1
                  · intro w hSw
                    (try dsimp only at hSw)
                    first | (go_simp; done) | (go_simp; with_reducible rfl)
                  try simp only [Act.put, List.setIfInBounds_toArray, List.set_cons_zero, List.set_cons_succ]
                  refine held_yes (i := 1) 30 (v := ?_) rfl rfl (by kernel_rfl) (by kernel_rfl) (by kernel_rfl) (fun _ _ _ _ _ h => h) (by rfl) (by assumption) ?_ ?_
                  rotate_left 1
                  · intro w hSw
                    (try dsimp only at hSw)
                    first | (go_simp; done) | (go_simp; with_reducible rfl)
                  try simp only [Act.put, List.setIfInBounds_toArray, List.set_cons_zero, List.set_cons_succ]
                  refine held_yes (i := 2) 31 (v := ?_) rfl rfl (by kernel_rfl) (by kernel_rfl) (by kernel_rfl) (fun _ _ _ _ _ h => h) (by rfl) (by assumption) ?_ ?_
                  rotate_left 1
                  · intro w hSw
                    (try dsimp only at hSw)
                    first | (go_simp; done) | (go_simp; with_reducible rfl)
                  try simp only [Act.put, List.setIfInBounds_toArray, List.set_cons_zero, List.set_cons_succ]
                  refine held_yes (i := 3) 32 (v := ?_) rfl rfl (by kernel_rfl) (by kernel_rfl) (by kernel_rfl) (fun _ _ _ _ _ h => h) (by rfl) (by assumption) ?_ ?_
                  rotate_left 1
                  · intro w hSw
                    (try dsimp only at hSw)
                    first | (go_simp; done) | (go_simp; with_reducible rfl)
                  try simp only [Act.put, List.setIfInBounds_toArray, List.set_cons_zero, List.set_cons_succ]
                  refine held_yes (i := 4) 33 (v := ?_) rfl rfl (by kernel_rfl) (by kernel_rfl) (by kernel_rfl) (fun _ _ _ _ _ h => h) (by rfl) (by assumption) ?_ ?_
                  rotate_left 1
                  · intro w hSw
                    (try dsimp only at hSw)
                    first | (go_simp; done) | (go_simp; with_reducible rfl)
                  try simp only [Act.put, List.setIfInBounds_toArray, List.set_cons_zero, List.set_cons_succ]
                  refine held_yes (i := 5) 34 (v := ?_) rfl rfl (by kernel_rfl) (by kernel_rfl) (by kernel_rfl) (fun _ _ _ _ _ h => h) (by rfl) (by assumption) ?_ ?_
                  rotate_left 1
                  · intro w hSw
                    (try dsimp only at hSw)
                    first | (go_simp; done) | (go_simp; with_reducible rfl)
                  try simp only [Act.put, List.setIfInBounds_toArray, List.set_cons_zero, List.set_cons_succ]
                  refine held_yes (i := 6) 35 (v := ?_) rfl rfl (by kernel_rfl) (by kernel_rfl) (by kernel_rfl) (fun _ _ _ _ _ h => h) (by rfl) (by assumption) ?_ ?_
                  rotate_left 1
                  · intro w hSw
                    (try dsimp only at hSw)
                    first | (go_simp; done) | (go_simp; with_reducible rfl)
                  try simp only [Act.put, List.setIfInBounds_toArray, List.set_cons_zero, List.set_cons_succ]
                  refine held_yes (i := 7) 36 (v := ?_) rfl rfl (by kernel_rfl) (by kernel_rfl) (by kernel_rfl) (fun _ _ _ _ _ h => h) (by rfl) (by assumption) ?_ ?_
                  rotate_left 1
                  · intro w hSw
                    (try dsimp only at hSw)
                    first | (go_simp; done) | (go_simp; with_reducible rfl)
                  try simp only [Act.put, List.setIfInBounds_toArray, List.set_cons_zero, List.set_cons_succ]
                  refine held_yes (i := 8) 37 (v := ?_) rfl rfl (by kernel_rfl) (by kernel_rfl) (by kernel_rfl) (fun _ _ _ _ _ h => h) (by rfl) (by assumption) ?_ ?_
                  rotate_left 1
                  · intro w hSw
                    (try dsimp only at hSw)
                    first | (go_simp; done) | (go_simp; with_reducible rfl)
                  try simp only [Act.put, List.setIfInBounds_toArray, List.set_cons_zero, List.set_cons_succ]
                  refine held_yes (i := 9) 38 (v := ?_) rfl rfl (by kernel_rfl) (by kernel_rfl) (by kernel_rfl) (fun _ _ _ _ _ h => h) (by rfl) (by assumption) ?_ ?_
                  rotate_left 1
                  · intro w hSw
                    (try dsimp only at hSw)
                    first | (go_simp; done) | (go_simp; with_reducible rfl)
                  try simp only [Act.put, List.setIfInBounds_toArray, List.set_cons_zero, List.set_cons_succ]
                  refine held_yes (i := 10) 39 (v := ?_) rfl rfl (by kernel_rfl) (by kernel_rfl) (by kernel_rfl) (fun _ _ _ _ _ h => h) (by rfl) (by assumption) ?_ ?_
                  rotate_left 1
                  · intro w hSw
                    (try dsimp only at hSw)
                    first | (go_simp; done) | (go_simp; with_reducible rfl)
                  try simp only [Act.put, List.setIfInBounds_toArray, List.set_cons_zero, List.set_cons_succ]
                  refine wpAnyH_done (by kernel_rfl) ?_ _
                  refine NoPanic.normal ?_
                  have hC := hC.drew
                  clear hHeld
                  generalize w2.drew = w3 at hC ⊢
                  go_wp2_with fail
                  refine wp_region_noPanic ?_
                  refine wp_region_held_drew (S := fun w' => w'.cell? ⟨b, off + p * 3, none⟩ = some (.string x.pa) ∧ w'.cell? ⟨b, off + p * 3 + 1, none⟩ = some (.bool x.dr) ∧ w'.cell? ⟨b, off + p * 3 + 2, none⟩ = some (.slice x.ad x.zs.length x.cp) ∧ w'.cell? ⟨b2, off2 + q * 3, none⟩ = some (.string y.pa) ∧ w'.cell? ⟨b2, off2 + q * 3 + 1, none⟩ = some (.bool y.dr) ∧ w'.cell? ⟨b2, off2 + q * 3 + 2, none⟩ = some (.slice y.ad y.zs.length y.cp)) (by kernel_rfl) ?_ (fun hHeld => ?_)
                  · exact ⟨(hC.bel.cell (p := ⟨b, off + p * 3, none⟩) hbl).trans k0, (hC.bel.cell (p := ⟨b, off + p * 3 + 1, none⟩) hbl).trans k1, (hC.bel.cell (p := ⟨b, off + p * 3 + 2, none⟩) hbl).trans k2, (hC.bel.cell (p := ⟨b2, off2 + q * 3, none⟩) hbl2).trans l0, (hC.bel.cell (p := ⟨b2, off2 + q * 3 + 1, none⟩) hbl2).trans l1, (hC.bel.cell (p := ⟨b2, off2 + q * 3 + 2, none⟩) hbl2).trans l2⟩
                  have hC := hC.drew
                  generalize w3.drew = w4 at hC hHeld ⊢
                  refine held_yes (i := 0) 40 (v := ?_) rfl rfl (by kernel_rfl) (by kernel_rfl) (by kernel_rfl) (fun _ _ _ _ _ h => h) (by rfl) (by assumption) ?_ ?_
                  rotate_left 1
                  · intro w hSw
                    (try dsimp only at hSw)
                    first | (go_simp; done) | (go_simp; with_reducible rfl)
                  try simp only [Act.put, List.setIfInBounds_toArray, List.set_cons_zero, List.set_cons_succ]
                  refine held_yes (i := 1) 41 (v := ?_) rfl rfl (by kernel_rfl) (by kernel_rfl) (by kernel_rfl) (fun _ _ _ _ _ h => h) (by rfl) (by assumption) ?_ ?_
                  rotate_left 1
                  · intro w hSw
                    (try dsimp only at hSw)
                    first | (go_simp; done) | (go_simp; with_reducible rfl)
                  try simp only [Act.put, List.setIfInBounds_toArray, List.set_cons_zero, List.set_cons_succ]
                  refine held_yes (i := 2) 42 (v := ?_) rfl rfl (by kernel_rfl) (by kernel_rfl) (by kernel_rfl) (fun _ _ _ _ _ h => h) (by rfl) (by assumption) ?_ ?_
                  rotate_left 1
                  · intro w hSw
                    (try dsimp only at hSw)
                    first | (go_simp; done) | (go_simp; with_reducible rfl)
                  try simp only [Act.put, List.setIfInBounds_toArray, List.set_cons_zero, List.set_cons_succ]
                  refine held_yes (i := 3) 43 (v := ?_) rfl rfl (by kernel_rfl) (by kernel_rfl) (by kernel_rfl) (fun _ _ _ _ _ h => h) (by rfl) (by assumption) ?_ ?_
                  rotate_left 1
                  · intro w hSw
                    (try dsimp only at hSw)
                    first | (go_simp; done) | (go_simp; with_reducible rfl)
                  try simp only [Act.put, List.setIfInBounds_toArray, List.set_cons_zero, List.set_cons_succ]
                  refine held_yes (i := 4) 44 (v := ?_) rfl rfl (by kernel_rfl) (by kernel_rfl) (by kernel_rfl) (fun _ _ _ _ _ h => h) (by rfl) (by assumption) ?_ ?_
                  rotate_left 1
                  · intro w hSw
                    (try dsimp only at hSw)
                    first | (go_simp; done) | (go_simp; with_reducible rfl)
                  try simp only [Act.put, List.setIfInBounds_toArray, List.set_cons_zero, List.set_cons_succ]
                  refine held_yes (i := 7) 47 (v := ?_) rfl rfl (by kernel_rfl) (by kernel_rfl) (by kernel_rfl) (fun _ _ _ _ _ h => h) (by rfl) (by assumption) ?_ ?_
                  rotate_left 1
                  · intro w hSw
                    (try dsimp only at hSw)
                    first | (go_simp; done) | (go_simp; with_reducible rfl)
                  try simp only [Act.put, List.setIfInBounds_toArray, List.set_cons_zero, List.set_cons_succ]
                  refine held_yes (i := 8) 48 (v := ?_) rfl rfl (by kernel_rfl) (by kernel_rfl) (by kernel_rfl) (fun _ _ _ _ _ h => h) (by rfl) (by assumption) ?_ ?_
                  rotate_left 1
                  · intro w hSw
                    (try dsimp only at hSw)
                    first | (go_simp; done) | (go_simp; with_reducible rfl)
                  try simp only [Act.put, List.setIfInBounds_toArray, List.set_cons_zero, List.set_cons_succ]
                  refine held_yes (i := 9) 49 (v := ?_) rfl rfl (by kernel_rfl) (by kernel_rfl) (by kernel_rfl) (fun _ _ _ _ _ h => h) (by rfl) (by assumption) ?_ ?_
                  rotate_left 1
                  · intro w hSw
                    (try dsimp only at hSw)
                    first | (go_simp; done) | (go_simp; with_reducible rfl)
                  try simp only [Act.put, List.setIfInBounds_toArray, List.set_cons_zero, List.set_cons_succ]
                  refine held_yes (i := 10) 50 (v := ?_) rfl rfl (by kernel_rfl) (by kernel_rfl) (by kernel_rfl) (fun _ _ _ _ _ h => h) (by rfl) (by assumption) ?_ ?_
                  rotate_left 1
                  · intro w hSw
                    (try dsimp only at hSw)
                    first | (go_simp; done) | (go_simp; with_reducible rfl)
                  try simp only [Act.put, List.setIfInBounds_toArray, List.set_cons_zero, List.set_cons_succ]
                  refine wpAnyH_ready (rs := [5]) (by kernel_rfl) (by simp) ?_
                  refine AllReadyH.cons rfl (fun K hK => ?_) AllReadyH.nil
                  go_simp
                  with_reducible refine (l5Copy_any x B w4 (hIn.out.below hC.bel) (by omega)).mono ?_
                  rintro e w51 ⟨ax, cx, rfl, hO5, hb5⟩
                  have hC := hC.below hb5
                  clear hO5 hb5
                  go_wp2_with fail
                  refine hK.out _ _ ?_ (fun hHeld => ?_)
                  · exact ⟨(hC.bel.cell (p := ⟨b, off + p * 3, none⟩) hbl).trans k0, (hC.bel.cell (p := ⟨b, off + p * 3 + 1, none⟩) hbl).trans k1, (hC.bel.cell (p := ⟨b, off + p * 3 + 2, none⟩) hbl).trans k2, (hC.bel.cell (p := ⟨b2, off2 + q * 3, none⟩) hbl2).trans l0, (hC.bel.cell (p := ⟨b2, off2 + q * 3 + 1, none⟩) hbl2).trans l1, (hC.bel.cell (p := ⟨b2, off2 + q * 3 + 2, none⟩) hbl2).trans l2⟩
                  clear hK K
                  try simp only [Act.put, List.setIfInBounds_toArray, List.set_cons_zero, List.set_cons_succ]
                  refine held_yes (i := 6) 46 (v := ?_) rfl rfl (by kernel_rfl) (by kernel_rfl) (by kernel_rfl) (fun _ _ _ _ _ h => h) (by rfl) (by assumption) ?_ ?_
                  rotate_left 1
                  · intro w hSw
                    (try dsimp only at hSw)
                    first | (go_simp; done) | (go_simp; with_reducible rfl)
                  try simp only [Act.put, List.setIfInBounds_toArray, List.set_cons_zero, List.set_cons_succ]
                  refine wpAnyH_ready (rs := [11]) (by kernel_rfl) (by simp) ?_
                  refine AllReadyH.cons rfl (fun K hK => ?_) AllReadyH.nil
                  go_simp
                  with_reducible refine (l5Copy_any y B w51 (hIn2.out.below hC.bel) (by omega)).mono ?_
                  rintro e w52 ⟨ay, cy, rfl, hO5, hb5⟩
                  have hC := hC.below hb5
                  clear hO5 hb5
                  go_wp2_with fail
                  refine hK.out _ _ ?_ (fun hHeld => ?_)
                  · exact ⟨(hC.bel.cell (p := ⟨b, off + p * 3, none⟩) hbl).trans k0, (hC.bel.cell (p := ⟨b, off + p * 3 + 1, none⟩) hbl).trans k1, (hC.bel.cell (p := ⟨b, off + p * 3 + 2, none⟩) hbl).trans k2, (hC.bel.cell (p := ⟨b2, off2 + q * 3, none⟩) hbl2).trans l0, (hC.bel.cell (p := ⟨b2, off2 + q * 3 + 1, none⟩) hbl2).trans l1, (hC.bel.cell (p := ⟨b2, off2 + q * 3 + 2, none⟩) hbl2).trans l2⟩
                  clear hK K
                  try simp only [Act.put, List.setIfInBounds_toArray, List.set_cons_zero, List.set_cons_succ]
                  refine held_yes (i := 12) 52 (v := ?_) rfl rfl (by kernel_rfl) (by kernel_rfl) (by kernel_rfl) (fun _ _ _ _ _ h => h) (by rfl) (by assumption) ?_ ?_
                  rotate_left 1
                  · intro w hSw
                    (try dsimp only at hSw)
                    first | (go_simp; done) | (go_simp; with_reducible rfl)
                  try simp only [Act.put, List.setIfInBounds_toArray, List.set_cons_zero, List.set_cons_succ]
                  refine wpAnyH_ready (rs := [13]) (by kernel_rfl) (by simp) ?_
                  refine AllReadyH.cons rfl (fun K hK => ?_) AllReadyH.nil
                  go_simp
                  refine hK.out _ _ ?_ (fun hHeld => ?_)
                  · exact ⟨((hC.alloc _).bel.cell (p := ⟨b, off + p * 3, none⟩) hbl).trans k0, ((hC.alloc _).bel.cell (p := ⟨b, off + p * 3 + 1, none⟩) hbl).trans k1, ((hC.alloc _).bel.cell (p := ⟨b, off + p * 3 + 2, none⟩) hbl).trans k2, ((hC.alloc _).bel.cell (p := ⟨b2, off2 + q * 3, none⟩) hbl2).trans l0, ((hC.alloc _).bel.cell (p := ⟨b2, off2 + q * 3 + 1, none⟩) hbl2).trans l1, ((hC.alloc _).bel.cell (p := ⟨b2, off2 + q * 3 + 2, none⟩) hbl2).trans l2⟩
                  clear hK K
                  try simp only [Act.put, List.setIfInBounds_toArray, List.set_cons_zero, List.set_cons_succ]
                  refine wpAnyH_ready (rs := [14]) (by kernel_rfl) (by simp) ?_
                  refine AllReadyH.cons rfl (fun K hK => ?_) AllReadyH.nil
                  refine step_appR eltG (by rfl) _ _ (by rfl) hC.len (by rfl) (hC.own.alloc _) ⟨w52.heap.size, 0, none⟩ 2 2 [⟨2, x.pa, x.dr, ax, cx, x.zs⟩, ⟨1, y.pa, y.dr, ay, cy, y.zs⟩] (by rfl) rfl (newG2 w52 _ rfl ⟨2, x.pa, x.dr, ax, cx, x.zs⟩ ⟨1, y.pa, y.dr, ay, cy, y.zs⟩) (by omega) (by have := hC.bel.size; simp; omega) ?_
                  intro a6 c6 w6 hR6 hG6
                  have hC := hC.push2 hG6 hR6
                  clear hR6 hG6
                  refine hK.out _ _ ?_ (fun hHeld => ?_)
                  · exact ⟨(hC.bel.cell (p := ⟨b, off + p * 3, none⟩) hbl).trans k0, (hC.bel.cell (p := ⟨b, off + p * 3 + 1, none⟩) hbl).trans k1, (hC.bel.cell (p := ⟨b, off + p * 3 + 2, none⟩) hbl).trans k2, (hC.bel.cell (p := ⟨b2, off2 + q * 3, none⟩) hbl2).trans l0, (hC.bel.cell (p := ⟨b2, off2 + q * 3 + 1, none⟩) hbl2).trans l1, (hC.bel.cell (p := ⟨b2, off2 + q * 3 + 2, none⟩) hbl2).trans l2⟩
                  clear hK K
                  try simp only [Act.put, List.setIfInBounds_toArray, List.set_cons_zero, List.set_cons_succ]
                  refine held_yes (i := 15) 6 (v := ?_) rfl rfl (by kernel_rfl) (by kernel_rfl) (by kernel_rfl) (fun _ _ _ _ _ h => h) (by rfl) (by assumption) ?_ ?_
                  rotate_left 1
                  · intro w hSw
                    (try dsimp only at hSw)
                    first | (go_simp; done) | (go_simp; with_reducible rfl)
                  try simp only [Act.put, List.setIfInBounds_toArray, List.set_cons_zero, List.set_cons_succ]
                  refine wpAnyH_done (by kernel_rfl) ?_ _
                  refine NoPanic.normal ?_
                  clear hHeld
                  go_wp2_with fail
                  go_roundg ((n - (p + 1)) + (m - (q + 1)))
                  case measure => omega
                  case rel => exact ⟨(p + 1), (q + 1), by omega, by omega, rfl, by go_num, by go_num, _, _, _, (L + 2), rfl, by omega, hC⟩
          · obtain rfl : m = q := by omega
            go_wp2_with fail
            refine wp_region_noPanic ?_
            refine wp_region_held_drew (S := fun w' => True) (by kernel_rfl) ?_ (fun hHeld => ?_)
            · exact trivial
            refine held_yes (i := 0) 79 (v := ?_) rfl rfl (by kernel_rfl) (by kernel_rfl) (by kernel_rfl) (fun _ _ _ _ _ h => h) (by rfl) (by assumption) ?_ ?_
            rotate_left 1
            · intro w hSw
              (try dsimp only at hSw)
              first | (go_simp; done) | (go_simp; with_reducible rfl)
            try simp only [Act.put, List.setIfInBounds_toArray, List.set_cons_zero, List.set_cons_succ]
            refine held_yes (i := 1) 80 (v := ?_) rfl rfl (by kernel_rfl) (by kernel_rfl) (by kernel_rfl) (fun _ _ _ _ _ h => h) (by rfl) (by assumption) ?_ ?_
            rotate_left 1
            · intro w hSw
              (try dsimp only at hSw)
              first | (go_simp; done) | (go_simp; with_reducible rfl)
            try simp only [Act.put, List.setIfInBounds_toArray, List.set_cons_zero, List.set_cons_succ]
            refine held_yes (i := 2) 81 (v := ?_) rfl rfl (by kernel_rfl) (by kernel_rfl) (by kernel_rfl) (fun _ _ _ _ _ h => h) (by rfl) (by assumption) ?_ ?_
            rotate_left 1
            · intro w hSw
              (try dsimp only at hSw)
              first | (go_simp; done) | (go_simp; with_reducible rfl)
            try simp only [Act.put, List.setIfInBounds_toArray, List.set_cons_zero, List.set_cons_succ]
            refine held_yes (i := 3) 82 (v := ?_) rfl rfl (by kernel_rfl) (by kernel_rfl) (by kernel_rfl) (fun _ _ _ _ _ h => h) (by rfl) (by assumption) ?_ ?_
            rotate_left 1
            · intro w hSw
              (try dsimp only at hSw)
              first | (go_simp; done) | (go_simp; with_reducible rfl)
            try simp only [Act.put, List.setIfInBounds_toArray, List.set_cons_zero, List.set_cons_succ]
            refine held_yes (i := 4) 83 (v := ?_) rfl rfl (by kernel_rfl) (by kernel_rfl) (by kernel_rfl) (fun _ _ _ _ _ h => h) (by rfl) (by assumption) ?_ ?_
            rotate_left 1
            · intro w hSw
              (try dsimp only at hSw)
              first | (go_simp; done) | (go_simp; with_reducible rfl)
            try simp only [Act.put, List.setIfInBounds_toArray, List.set_cons_zero, List.set_cons_succ]
            refine held_nos (by kernel_rfl) (fun _ _ _ _ _ h => h) (by assumption) [(5, 84), (6, 85), (7, 86), (8, 87), (9, 88), (10, 89), (11, 90), (12, 91), (13, 92), (14, 93), (15, 94), (16, 95), (17, 96), (18, 97), (19, 98), (20, 99), (21, 100)] 2 _ _ (by kernel_rfl) ?_
            simp only [List.foldl_cons, List.foldl_nil, Act.put, List.setIfInBounds_toArray, List.set_cons_zero, List.set_cons_succ]
            refine held_yes (i := 22) 101 (v := ?_) rfl rfl (by kernel_rfl) (by kernel_rfl) (by kernel_rfl) (fun _ _ _ _ _ h => h) (by rfl) (by assumption) ?_ ?_
            rotate_left 1
            · intro w hSw
              (try dsimp only at hSw)
              first | (go_simp; done) | (go_simp; with_reducible rfl)
            try simp only [Act.put, List.setIfInBounds_toArray, List.set_cons_zero, List.set_cons_succ]
            refine held_yes (i := 23) 78 (v := ?_) rfl rfl (by kernel_rfl) (by kernel_rfl) (by kernel_rfl) (fun _ _ _ _ _ h => h) (by rfl) (by assumption) ?_ ?_
            rotate_left 1
            · intro w hSw
              (try dsimp only at hSw)
              first | (go_simp; done) | (go_simp; with_reducible rfl)
            try simp only [Act.put, List.setIfInBounds_toArray, List.set_cons_zero, List.set_cons_succ]
            refine wpAnyH_done (by kernel_rfl) ?_ _
            refine NoPanic.normal ?_
            have hC := hC.drew
            clear hHeld
            generalize wr.drew = w1 at hC ⊢
            have c0 := (hC.bel.cell (p := ⟨b, off + p * 3, none⟩) hbl).trans k0
            have c1 := (hC.bel.cell (p := ⟨b, off + p * 3 + 1, none⟩) hbl).trans k1
            have c2 := (hC.bel.cell (p := ⟨b, off + p * 3 + 2, none⟩) hbl).trans k2
            go_wp2_with fail
            with_reducible refine (l5Copy_any x B w1 (hIn.out.below hC.bel) (by omega)).mono ?_
            rintro e w5c ⟨a5, c5, rfl, hO5, hb5⟩
            have hC := hC.below hb5
            clear c0 c1 c2
            clear hO5 hb5
            go_wp2_with (at_builtin; refine wp_appR eltG rfl _ _ rfl hC.len rfl (hC.own.alloc _) ⟨w5c.heap.size, 0, none⟩ 1 1 [⟨2, x.pa, x.dr, a5, c5, x.zs⟩] rfl rfl (newG w5c _ rfl ⟨2, x.pa, x.dr, a5, c5, x.zs⟩) (by omega) (by have := hC.bel.size; simp; omega) ?_; intro a6 c6 w6c hR6 hG6)
            have hC := hC.push hG6 hR6
            clear hR6 hG6
            go_roundg ((n - (p + 1)) + (m - m))
            case measure => omega
            case rel => exact ⟨(p + 1), m, by omega, by omega, rfl, by go_num, by go_num, _, _, _, (L + 1), rfl, by omega, hC⟩
        · obtain rfl : n = p := by omega
          by_cases hqm : q < m
          · obtain ⟨b2, off2, y, rfl, hbl2, hy, l0, l1, l2⟩ := atT hr2 hqm
            have hsy := HS2.out y (List.mem_of_getElem? hy)
            have hIn2 := Lib.hid (HI2.out y (List.mem_of_getElem? hy))
            have hq0 : (0 : Int) ≤ (q : Int) := by omega
            have hq1 : (q : Int) < (m : Int) := by omega
            have hqe : ¬ (q : Int) = (m : Int) := by omega
            have hqe' : ¬ q = m := by omega
            clear hy
            have he1 : ((q : Int) == (m : Int)) = false := by simp; omega
            have he2 : (q == m) = false := by simp; omega
            have he3 : decide ((q : Int) = (m : Int)) = false := by simp; omega
            have he4 : decide (q = m) = false := by simp; omega
            go_wp2_with fail
            refine wp_region_noPanic ?_
            refine wp_region_held_drew (S := fun w' => True) (by kernel_rfl) ?_ (fun hHeld => ?_)
            · exact trivial
            refine held_yes (i := 0) 79 (v := ?_) rfl rfl (by kernel_rfl) (by kernel_rfl) (by kernel_rfl) (fun _ _ _ _ _ h => h) (by rfl) (by assumption) ?_ ?_
            rotate_left 1
            · intro w hSw
              (try dsimp only at hSw)
              first | (go_simp; done) | (go_simp; with_reducible rfl)
            try simp only [Act.put, List.setIfInBounds_toArray, List.set_cons_zero, List.set_cons_succ]
            refine held_yes (i := 1) 80 (v := ?_) rfl rfl (by kernel_rfl) (by kernel_rfl) (by kernel_rfl) (fun _ _ _ _ _ h => h) (by rfl) (by assumption) ?_ ?_
            rotate_left 1
            · intro w hSw
              (try dsimp only at hSw)
              first | (go_simp; done) | (go_simp; with_reducible rfl)
            try simp only [Act.put, List.setIfInBounds_toArray, List.set_cons_zero, List.set_cons_succ]
            refine held_yes (i := 2) 81 (v := ?_) rfl rfl (by kernel_rfl) (by kernel_rfl) (by kernel_rfl) (fun _ _ _ _ _ h => h) (by rfl) (by assumption) ?_ ?_
            rotate_left 1
            · intro w hSw
              (try dsimp only at hSw)
              first | (go_simp; done) | (go_simp; with_reducible rfl)
            try simp only [Act.put, List.setIfInBounds_toArray, List.set_cons_zero, List.set_cons_succ]
            refine held_yes (i := 3) 82 (v := ?_) rfl rfl (by kernel_rfl) (by kernel_rfl) (by kernel_rfl) (fun _ _ _ _ _ h => h) (by rfl) (by assumption) ?_ ?_
            rotate_left 1
            · intro w hSw
              (try dsimp only at hSw)
              first | (go_simp; done) | (go_simp; with_reducible rfl)
            try simp only [Act.put, List.setIfInBounds_toArray, List.set_cons_zero, List.set_cons_succ]
            refine held_yes (i := 4) 83 (v := ?_) rfl rfl (by kernel_rfl) (by kernel_rfl) (by kernel_rfl) (fun _ _ _ _ _ h => h) (by rfl) (by assumption) ?_ ?_
            rotate_left 1
            · intro w hSw
              (try dsimp only at hSw)
              first | (go_simp; done) | (go_simp; with_reducible rfl)
            try simp only [Act.put, List.setIfInBounds_toArray, List.set_cons_zero, List.set_cons_succ]
            refine held_yes (i := 5) 84 (v := ?_) rfl rfl (by kernel_rfl) (by kernel_rfl) (by kernel_rfl) (fun _ _ _ _ _ h => h) (by rfl) (by assumption) ?_ ?_
            rotate_left 1
            · intro w hSw
              (try dsimp only at hSw)
              first | (go_simp; done) | (go_simp; with_reducible rfl)
            try simp only [Act.put, List.setIfInBounds_toArray, List.set_cons_zero, List.set_cons_succ]
            refine held_yes (i := 6) 85 (v := ?_) rfl rfl (by kernel_rfl) (by kernel_rfl) (by kernel_rfl) (fun _ _ _ _ _ h => h) (by rfl) (by assumption) ?_ ?_
            rotate_left 1
            · intro w hSw
              (try dsimp only at hSw)
              first | (go_simp; done) | (go_simp; with_reducible rfl)
            try simp only [Act.put, List.setIfInBounds_toArray, List.set_cons_zero, List.set_cons_succ]
            refine held_yes (i := 7) 86 (v := ?_) rfl rfl (by kernel_rfl) (by kernel_rfl) (by kernel_rfl) (fun _ _ _ _ _ h => h) (by rfl) (by assumption) ?_ ?_
            rotate_left 1
            · intro w hSw
              (try dsimp only at hSw)
              first | (go_simp; done) | (go_simp; with_reducible rfl)
            try simp only [Act.put, List.setIfInBounds_toArray, List.set_cons_zero, List.set_cons_succ]
            refine held_yes (i := 8) 87 (v := ?_) rfl rfl (by kernel_rfl) (by kernel_rfl) (by kernel_rfl) (fun _ _ _ _ _ h => h) (by rfl) (by assumption) ?_ ?_
            rotate_left 1
            · intro w hSw
              (try dsimp only at hSw)
              first | (go_simp; done) | (go_simp; with_reducible rfl)
            try simp only [Act.put, List.setIfInBounds_toArray, List.set_cons_zero, List.set_cons_succ]
            refine held_yes (i := 9) 88 (v := ?_) rfl rfl (by kernel_rfl) (by kernel_rfl) (by kernel_rfl) (fun _ _ _ _ _ h => h) (by rfl) (by assumption) ?_ ?_
            rotate_left 1
            · intro w hSw
              (try dsimp only at hSw)
              first | (go_simp; done) | (go_simp; with_reducible rfl)
            try simp only [Act.put, List.setIfInBounds_toArray, List.set_cons_zero, List.set_cons_succ]
            refine held_nos (by kernel_rfl) (fun _ _ _ _ _ h => h) (by assumption) [(10, 89), (11, 90), (12, 91), (13, 92), (14, 93), (15, 94), (16, 95), (17, 96), (18, 97), (19, 98), (20, 99)] 3 _ _ (by kernel_rfl) ?_
            simp only [List.foldl_cons, List.foldl_nil, Act.put, List.setIfInBounds_toArray, List.set_cons_zero, List.set_cons_succ]
            refine held_yes (i := 21) 100 (v := ?_) rfl rfl (by kernel_rfl) (by kernel_rfl) (by kernel_rfl) (fun _ _ _ _ _ h => h) (by rfl) (by assumption) ?_ ?_
            rotate_left 1
            · intro w hSw
              (try dsimp only at hSw)
              first | (go_simp; done) | (go_simp; with_reducible rfl)
            try simp only [Act.put, List.setIfInBounds_toArray, List.set_cons_zero, List.set_cons_succ]
            refine held_yes (i := 22) 101 (v := ?_) rfl rfl (by kernel_rfl) (by kernel_rfl) (by kernel_rfl) (fun _ _ _ _ _ h => h) (by rfl) (by assumption) ?_ ?_
            rotate_left 1
            · intro w hSw
              (try dsimp only at hSw)
              first | (go_simp; done) | (go_simp; with_reducible rfl)
            try simp only [Act.put, List.setIfInBounds_toArray, List.set_cons_zero, List.set_cons_succ]
            refine held_yes (i := 23) 78 (v := ?_) rfl rfl (by kernel_rfl) (by kernel_rfl) (by kernel_rfl) (fun _ _ _ _ _ h => h) (by rfl) (by assumption) ?_ ?_
            rotate_left 1
            · intro w hSw
              (try dsimp only at hSw)
              first | (go_simp; done) | (go_simp; with_reducible rfl)
            try simp only [Act.put, List.setIfInBounds_toArray, List.set_cons_zero, List.set_cons_succ]
            refine wpAnyH_done (by kernel_rfl) ?_ _
            refine NoPanic.normal ?_
            have hC := hC.drew
            clear hHeld
            generalize wr.drew = w1 at hC ⊢
            go_wp2_with fail
            refine wp_region_noPanic ?_
            refine wp_region_held_drew (S := fun w' => True) (by kernel_rfl) ?_ (fun hHeld => ?_)
            · exact trivial
            refine held_yes (i := 0) 114 (v := ?_) rfl rfl (by kernel_rfl) (by kernel_rfl) (by kernel_rfl) (fun _ _ _ _ _ h => h) (by rfl) (by assumption) ?_ ?_
            rotate_left 1
            · intro w hSw
              (try dsimp only at hSw)
              first | (go_simp; done) | (go_simp; with_reducible rfl)
            try simp only [Act.put, List.setIfInBounds_toArray, List.set_cons_zero, List.set_cons_succ]
            refine held_yes (i := 1) 115 (v := ?_) rfl rfl (by kernel_rfl) (by kernel_rfl) (by kernel_rfl) (fun _ _ _ _ _ h => h) (by rfl) (by assumption) ?_ ?_
            rotate_left 1
            · intro w hSw
              (try dsimp only at hSw)
              first | (go_simp; done) | (go_simp; with_reducible rfl)
            try simp only [Act.put, List.setIfInBounds_toArray, List.set_cons_zero, List.set_cons_succ]
            refine held_yes (i := 2) 116 (v := ?_) rfl rfl (by kernel_rfl) (by kernel_rfl) (by kernel_rfl) (fun _ _ _ _ _ h => h) (by rfl) (by assumption) ?_ ?_
            rotate_left 1
            · intro w hSw
              (try dsimp only at hSw)
              first | (go_simp; done) | (go_simp; with_reducible rfl)
            try simp only [Act.put, List.setIfInBounds_toArray, List.set_cons_zero, List.set_cons_succ]
            refine held_yes (i := 3) 117 (v := ?_) rfl rfl (by kernel_rfl) (by kernel_rfl) (by kernel_rfl) (fun _ _ _ _ _ h => h) (by rfl) (by assumption) ?_ ?_
            rotate_left 1
            · intro w hSw
              (try dsimp only at hSw)
              first | (go_simp; done) | (go_simp; with_reducible rfl)
            try simp only [Act.put, List.setIfInBounds_toArray, List.set_cons_zero, List.set_cons_succ]
            refine held_yes (i := 4) 118 (v := ?_) rfl rfl (by kernel_rfl) (by kernel_rfl) (by kernel_rfl) (fun _ _ _ _ _ h => h) (by rfl) (by assumption) ?_ ?_
            rotate_left 1
            · intro w hSw
              (try dsimp only at hSw)
              first | (go_simp; done) | (go_simp; with_reducible rfl)
            try simp only [Act.put, List.setIfInBounds_toArray, List.set_cons_zero, List.set_cons_succ]
            refine held_nos (by kernel_rfl) (fun _ _ _ _ _ h => h) (by assumption) [(5, 119), (6, 120), (7, 121), (8, 122), (9, 123), (10, 124), (11, 125), (12, 126), (13, 127), (14, 128), (15, 129)] 2 _ _ (by kernel_rfl) ?_
            simp only [List.foldl_cons, List.foldl_nil, Act.put, List.setIfInBounds_toArray, List.set_cons_zero, List.set_cons_succ]
            refine held_yes (i := 16) 130 (v := ?_) rfl rfl (by kernel_rfl) (by kernel_rfl) (by kernel_rfl) (fun _ _ _ _ _ h => h) (by rfl) (by assumption) ?_ ?_
            rotate_left 1
            · intro w hSw
              (try dsimp only at hSw)
              first | (go_simp; done) | (go_simp; with_reducible rfl)
            try simp only [Act.put, List.setIfInBounds_toArray, List.set_cons_zero, List.set_cons_succ]
            refine held_yes (i := 17) 113 (v := ?_) rfl rfl (by kernel_rfl) (by kernel_rfl) (by kernel_rfl) (fun _ _ _ _ _ h => h) (by rfl) (by assumption) ?_ ?_
            rotate_left 1
            · intro w hSw
              (try dsimp only at hSw)
              first | (go_simp; done) | (go_simp; with_reducible rfl)
            try simp only [Act.put, List.setIfInBounds_toArray, List.set_cons_zero, List.set_cons_succ]
            refine wpAnyH_done (by kernel_rfl) ?_ _
            refine NoPanic.normal ?_
            have hC := hC.drew
            clear hHeld
            generalize w1.drew = w2 at hC ⊢
            have d0 := (hC.bel.cell (p := ⟨b2, off2 + q * 3, none⟩) hbl2).trans l0
            have d1 := (hC.bel.cell (p := ⟨b2, off2 + q * 3 + 1, none⟩) hbl2).trans l1
            have d2 := (hC.bel.cell (p := ⟨b2, off2 + q * 3 + 2, none⟩) hbl2).trans l2
            go_wp2_with fail
            with_reducible refine (l5Copy_any y B w2 (hIn2.out.below hC.bel) (by omega)).mono ?_
            rintro e w5d ⟨a5, c5, rfl, hO5, hb5⟩
            have hC := hC.below hb5
            clear d0 d1 d2
            clear hO5 hb5
            go_wp2_with (at_builtin; refine wp_appR eltG rfl _ _ rfl hC.len rfl (hC.own.alloc _) ⟨w5d.heap.size, 0, none⟩ 1 1 [⟨1, y.pa, y.dr, a5, c5, y.zs⟩] rfl rfl (newG w5d _ rfl ⟨1, y.pa, y.dr, a5, c5, y.zs⟩) (by omega) (by have := hC.bel.size; simp; omega) ?_; intro a6 c6 w6d hR6 hG6)
            have hC := hC.push hG6 hR6
            clear hR6 hG6
            go_roundg ((n - n) + (m - (q + 1)))
            case measure => omega
            case rel => exact ⟨n, (q + 1), by omega, by omega, rfl, by go_num, by go_num, _, _, _, (L + 1), rfl, by omega, hC⟩
          · obtain rfl : m = q := by omega
            go_wp2
            go_ret2
            exact ⟨cs, a4, c4, L, true, rfl, by omega, hC⟩

end Go.Proofs.Ytdjpaibjelfhnaa
