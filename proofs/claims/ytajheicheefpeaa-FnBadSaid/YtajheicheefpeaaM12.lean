import Derived.Test.YtajheicheefpeaaM9
import Derived.Test.YtajheicheefpeaaM2
import Derived.Test.YtajheicheefpeaaM8
import Derived.IntWalk
import Derived.Deep.RegionHeld3
import Derived.Deep.LoopGhost
import Derived.Deep.DeepCutAuto
import Derived.Test.YtajheicheefpeaaM4
import Derived.BigQuiet
import Derived.Deep.QuietTactic
import Derived.Test.YtajheicheefpeaaM11
import Derived.Test.YtajheicheefpeaaM10
/- Contract of the draw of a store's sums. -/
namespace Go.Proofs.Ytajheicheefpeaa
open Go.RowKit
set_option linter.unusedVariables false

/-- Sums were drawn. -/
def DrewC (w wr : World) (B g : Nat) (lim : Int) (e : Ending) (w' : World) : Prop :=
  ∃ cs a c, e = .returned (.slice a cs.length c) ∧ cs.length ≤ 16 ∧ OwnX w' wr.heap.size a c cs ∧ Drawn w w' B g lim ∧ wr.grownBy w' (some g)

theorem two_at (w : World) (x : Int) (h0 : 0 ≤ x) (h1 : x < 2) : ∃ y : Int, (w.alloc (.cells #[.int .i64 0, .int .i64 100] 3)).cell? ⟨w.heap.size, x.toNat, none⟩ = some (.int .i64 y) ∧ 0 ≤ y ∧ y ≤ 100 := by
  rw [cell_of_row _ w.heap.size _ _ _ (0, 0) (heap_alloc_new w _)]
  obtain rfl | rfl : x = 0 ∨ x = 1 := by omega
  all_goals exact ⟨_, rfl, by omega, by omega⟩

theorem checksR_len {xs : List HV} {n : Nat} (hn : xs.length ≤ n) : (checksR (valsH xs)).1.length ≤ n := by
  unfold checksR
  split
  · simpa [sumsL, valsH] using hn
  · simp

/-- The sums in the midst of their draw. -/
structure DC (w wr : World) (B g : Nat) (lim : Int) (W : World) (a : Option Addr) (c L : Nat) (cs : List (Int × Int)) : Prop where
  len : cs.length = L
  own : OwnX W wr.heap.size a c cs
  drawn : Drawn w W B g lim
  grow : wr.grownBy W (some g)
  lt : g < wr.heap.size

theorem DC.pick {w wr : World} {B g : Nat} {lim lim' : Int} {W W' : World} {a : Option Addr} {c L : Nat} {cs : List (Int × Int)} (h : DC w wr B g lim W a c L cs) (hD : Drawn w W' B g lim') (hg : W.grownBy W' (some g)) : DC w wr B g lim' W' a c L cs :=
  ⟨h.len, h.own.grown hg h.lt, hD, grownBy_trans h.grow hg, h.lt⟩

theorem DC.alloc {w wr : World} {B g : Nat} {lim : Int} {W : World} {a : Option Addr} {c L : Nat} {cs : List (Int × Int)} (h : DC w wr B g lim W a c L cs) (o : Obj) : DC w wr B g lim (W.alloc o) a c L cs :=
  ⟨h.len, h.own.alloc o, h.drawn.alloc o, grownBy_trans h.grow (World.grownBy_alloc W o _), h.lt⟩

theorem DC.set {w wr : World} {B g : Nat} {lim : Int} {W W' : World} {gg c L : Nat} {cs cs' : List (Int × Int)} (h : DC w wr B g lim W (some ⟨gg, 0, none⟩) c L cs) (hL : cs'.length = L) (ho : OwnX W' wr.heap.size (some ⟨gg, 0, none⟩) c cs') (hg : W.grownBy W' (some gg)) (hgg : wr.heap.size ≤ gg) (hle : w.heap.size ≤ wr.heap.size) : DC w wr B g lim W' (some ⟨gg, 0, none⟩) c L cs' := by
  refine ⟨hL, ho, h.drawn.step hg (fun r e => by injection e with e; have := h.lt; omega), ?_, h.lt⟩
  refine ⟨hg.os.trans h.grow.os, hg.tape.trans h.grow.tape, hg.output.trans h.grow.output, Nat.le_trans h.grow.size hg.size, fun k hk hn => ?_⟩
  exact (hg.block k (Nat.lt_of_lt_of_le hk h.grow.size) (fun e => by injection e with e; omega)).trans (h.grow.block k hk hn)

set_option maxHeartbeats 1000000 in
theorem l92Checks_any (B g : Nat) (w wr : World) (lim : Int) (h : Drawn w wr B g lim) (hl : lim ≤ 1000000000) (a : Option Addr) (n c : Nat) (xs : List HV) (hr : RdR eltH wr a n xs) (hi : InH wr xs) (hs : ∀ x ∈ xs, x.zs.length ≤ 4611686018427387904) (hn : n ≤ 16) :
    Calls Try.prog 47 #[.pointer (some ⟨g, 0, none⟩), .slice a n c] wr (DrewC w wr B g (lim + 3)) := by
  have HLE := Lib.hid h.2.size
  have hl16 : (checksR (valsH xs)).1.length ≤ 16 := checksR_len (by have := hr.1; omega)
  have K := specChecksOf_any a n c xs wr hr hi hs (by omega)
  go_enter Try.func47, Try.ntmps47
  go_wp2_with fail
  with_reducible refine K.mono ?_
  rintro e w1 ⟨oa, oc, rfl, hO, hb⟩
  clear K hr hi hs
  have hS : DC w wr B g lim w1 oa oc (checksR (valsH xs)).1.length (checksR (valsH xs)).1 := ⟨rfl, hO, h.step (row := none) (grownBy_of_below hb _) (fun r e => by cases e), grownBy_of_below hb _, h.lt⟩
  clear hO hb h
  generalize (checksR (valsH xs)).1 = cs at hS hl16 ⊢
  generalize (checksR (valsH xs)).2 = bb at ⊢
  obtain ⟨L, hL⟩ : ∃ L, cs.length = L := ⟨_, rfl⟩
  rw [hL] at hS hl16 ⊢
  replace hL := Lib.hid hL
  by_cases h0 : L = 0
  · subst h0
    go_wp2
    go_ret
    exact ⟨cs, oa, oc, by rw [hL.out]; rfl, by rw [hL.out]; omega, hS.own, hS.drawn.le (by omega), hS.grow⟩
  · have hLp : 0 < L := by omega
    have hLz : (0 : Int) < (L : Int) := by omega
    go_wp2_with fail
    refine (pickD _ hS.drawn (by omega)).mono ?_
    rintro e w2 ⟨t, rfl, t0, t1, hD, hg⟩
    have hS2 := hS.pick hD hg
    clear hD hg hS t1
    by_cases ht : t = 0
    · subst ht
      go_wp2_with fail
      refine (pickD _ hS2.drawn (by omega)).mono ?_
      rintro e wj ⟨j, rfl, j0, j1, hD, hg⟩
      have j2 := j1 (by omega)
      have hS3 := hS2.pick hD hg
      clear hD hg hS2 j1
      obtain ⟨gg, rfl, hBg, hgg⟩ := hS3.own.head (by rw [hS3.len]; omega)
      obtain ⟨j, rfl⟩ := Int.eq_ofNat_of_zero_le j0
      have hjk : j < L := by omega
      have hS4 := hS3.alloc (.cells #[.int .i64 0, .int .i64 100] 3)
      have hgj : g < wj.heap.size := Nat.lt_of_lt_of_le hS3.lt hS3.grow.size
      clear hS3
      go_wp2_with fail
      refine (pickD _ hS4.drawn (by omega)).mono ?_
      rintro e wm ⟨m, rfl, m0, m1, hD, hg⟩
      have m2 := m1 (by omega)
      have hS5 := hS4.pick hD hg
      obtain ⟨v, hv, hv0, hv1⟩ := two_at wj m m0 m2
      have hv4 := hg.cell hv (by intro h; injection h with h; simp only at h; omega)
      clear hD hg hS4 m1 hv hgj
      obtain ⟨⟨c0, c1⟩, f0, f1⟩ := hS5.own.cells j (by rw [hS5.len]; exact hjk)
      have hset := hS5.own.set1 j (by rw [hS5.len]; exact hjk) v (by omega) (by omega)
      have hS6 := Lib.hid (hS5.set (by rw [List.length_set, hS5.len]) hset.1 hset.2 hBg HLE.out)
      clear hset hS5 c1 f1
      go_wp2
      go_ret
      exact ⟨_, _, oc, by rw [hS6.out.len]; rfl, by rw [hS6.out.len]; omega, hS6.out.own, hS6.out.drawn.le (by omega), hS6.out.grow⟩
    · have ht0 : (t == 0) = false := by simp [ht]
      go_wp2
      go_ret
      exact ⟨cs, oa, oc, by rw [hL.out]; rfl, by rw [hL.out]; omega, hS2.own, hS2.drawn.le (by omega), hS2.grow⟩

end Go.Proofs.Ytajheicheefpeaa

/- Contracts of StoreGet: the reference's and the program's. -/
namespace Go.Proofs.Ytajheicheefpeaa
open Go.RowKit Go.Maps
set_option linter.unusedVariables false

/-- A slice of ints of the call's own and a bool are handed back. -/
def RetIB (w : World) (zs : List Int) (ok : Bool) (e : Ending) (w' : World) : Prop :=
  ∃ a c, e = .returned (.tuple #[.slice a zs.length c, .bool ok]) ∧ OwnI w' w.heap.size a c zs ∧ Below w.heap.size w w'

theorem RetIB.nilI (w w' : World) (hb : Below w.heap.size w w') : RetIB w [] false (.returned (.tuple #[.slice none 0 0, .bool false])) w' :=
  ⟨_, _, rfl, ⟨(by intro z hz; cases hz), World.ownsRow_nil _ _ _ _⟩, hb⟩

theorem RetIB.emptyI (w w' : World) (hb : Below w.heap.size w w') : RetIB w [] false (.returned (.tuple #[.slice (some ⟨w'.heap.size, 0, none⟩) 0 0, .bool false])) (w'.alloc (.cells #[] 3)) :=
  ⟨_, _, rfl, OwnI.empty hb.size, hb.alloc hb.size _⟩

/-- A valid block lies somewhere. -/
theorem RdI.cellsAt {w w' : World} {a : Option Addr} {zs : List Int} (h : RdI w a zs.length zs) (h1 : 1 ≤ zs.length) (hb : Below w.heap.size w w') : ∃ ad, a = some ad ∧ ∀ j u, (zs.map (Value.int .i64))[j]? = some u → w'.cell? (ad.add j) = some u := by
  obtain ⟨b, off, rfl, hlt, hc⟩ := h.2 0 (by omega)
  refine ⟨_, rfl, fun j u hj => ?_⟩
  have hjn : j < zs.length := by have := (List.getElem?_eq_some_iff.1 hj).1; simpa using this
  rw [getElem?_ints zs j hjn] at hj
  injection hj with hj
  subst hj
  rw [Addr.add_lit, hb.cell (p := ⟨b, off + j, none⟩) hlt]
  exact hc j hjn

theorem zeroHeld (w : World) : (zeroValue 45).run Try.prog w = .ok (.agg #[.int .i64 0, .slice none 0 0, .int .i64 0]) w := by kernel_rfl

/-- 'h, ok := s[i]' where s is a store. -/
theorem StoreM.look {w : World} {B b : Nat} {ys : List HV} (h : StoreM w B b ys) {i : Int} (hi : (Lit.int .i64 i).wf = true) :
    (atV (valsH ys) i = none ∧ ∀ c, (Instr.lookup 66 (.map (some b)) (.int .i64 i) c).run Try.prog w = .ok (if c then .tuple #[.agg #[.int .i64 0, .slice none 0 0, .int .i64 0], .bool false] else .agg #[.int .i64 0, .slice none 0 0, .int .i64 0]) w) ∨
    ∃ y ∈ ys, atV (valsH ys) i = some y.val ∧ ∀ c, (Instr.lookup 66 (.map (some b)) (.int .i64 i) c).run Try.prog w = .ok (if c then .tuple #[valH y, .bool true] else valH y) w := by
  have hl := fun c => h.map.look Try.underlying66 (zeroHeld w) hi c
  rcases mapOf_atV (ys := ys) (i := i) with ⟨h1, h2⟩ | ⟨y, hy, h1, h2⟩
  · rw [h1] at hl
    exact .inl ⟨h2, hl⟩
  · rw [h1] at hl
    exact .inr ⟨y, hy, h2, hl⟩

set_option maxHeartbeats 400000 in
theorem implStoreGet_any (a : Option Addr) (n c : Nat) (xs : List HV) (i : Int) (w : World) (hr : RdR eltH w a n xs) (hi : InH w xs) (hs : ∀ x ∈ xs, x.zs.length ≤ 4611686018427387904) (hn : n ≤ c) (hc : c ≤ 9223372036854775807) (hwf : (Lit.int .i64 i).wf = true) :
    Calls Try.prog 29 #[.slice a n c, .int .i64 i] w (RetIB w (getR (valsH xs) i).1 (getR (valsH xs) i).2) := by
  have K := openStore_any a n c xs w hr hi hs hn hc
  go_enter Try.func29, Try.ntmps29
  go_wp2_with fail
  with_reducible refine K.mono ?_
  rintro e w1 (⟨hv, rfl, hb⟩ | ⟨hv, b, ys, rfl, hys, hM, hb⟩)
  · have HG := Lib.hid (getR_bad (i := i) hv)
    clear hv
    go_wp2
    go_ret2
    rw [HG.out]
    exact RetIB.nilI w w1 hb
  · rcases hM.look hwf with ⟨h1, hl⟩ | ⟨y, hy, h1, hl⟩
    · have hg : getR (valsH xs) i = ([], false) := by unfold getR; rw [← hys, h1]; simp
      have HG := Lib.hid hg
      have hl1 := hl true
      simp only [if_true] at hl1
      clear hg h1 hl hv hys
      go_wp2
      go_ret2
      rw [HG.out]
      exact RetIB.nilI w _ (hb.alloc hb.size _)
    · have hg : getR (valsH xs) i = (y.zs, true) := by unfold getR; rw [hv, ← hys, h1]; rfl
      have HG := Lib.hid hg
      have hl1 := hl true
      simp only [if_true] at hl1
      unfold valH at hl1
      have hO := hM.ins y hy
      clear hg h1 hl hv hys hy
      go_wp2
      go_ret2
      rw [HG.out]
      exact ⟨y.ad, y.cp, rfl, hO.alloc _, hb.alloc hb.size _⟩

end Go.Proofs.Ytajheicheefpeaa

/- Contract of l3Copy: the copy's lists lie apart. -/
namespace Go.Proofs.Ytajheicheefpeaa
open Go.RowKit
set_option linter.unusedVariables false

theorem newHV_atH (W : World) (N : Nat) (hN : W.heap.size = N) (y : HV) : ∀ j u, (eltH.flat [y])[j]? = some u → (W.alloc (.cells #[.int .i64 y.id, .slice y.ad y.zs.length y.cp, .int .i64 y.us] 45)).cell? ((⟨N, 0, none⟩ : Addr).add j) = some u := by
  subst hN
  exact newR eltH W y _ rfl

/-- What a round of l3Copy leaves. -/
structure CopyT (w W : World) (G : Nat) (a : Option Addr) (c : Nat) (ys : List HV) (x : HV) (a5 : Option Addr) (c5 N : Nat) : Prop where
  own : OwnH W w.heap.size a c ys
  new : OwnI W w.heap.size a5 c5 x.zs
  bel : Below w.heap.size w W
  size : W.heap.size = N
  ap : ∀ y ∈ ys, ∀ i u, apartH y ⟨i, a5, c5, x.zs, u⟩

theorem copyStepH {w wr w5 : World} {a a5 : Option Addr} {c c5 : Nat} {ys : List HV} {x : HV} (hJ : OwnH wr w.heap.size a c ys) (hb : Below w.heap.size w wr)
    (hg : ((wr.alloc (.cells #[.int .i64 x.id, .slice x.ad x.zs.length x.cp, .int .i64 x.us] 45)).alloc (.cells #[] 3)).grownBy w5 (some (wr.heap.size + 1)))
    (hO : OwnI w5 (wr.heap.size + 1) a5 c5 x.zs) :
    (w5.cell? ⟨wr.heap.size, 0, none⟩ = some (.int .i64 x.id) ∧ w5.cell? ⟨wr.heap.size, 1, none⟩ = some (.slice x.ad x.zs.length x.cp) ∧ w5.cell? ⟨wr.heap.size, 2, none⟩ = some (.int .i64 x.us) ∧ w5.frozen? ⟨wr.heap.size, 1, none⟩ = false) ∧
    CopyT w (w5.setCell ⟨wr.heap.size, 1, none⟩ (.slice a5 x.zs.length c5)) wr.heap.size a c ys x a5 c5 w5.heap.size := by
  obtain ⟨hHl, q0, q1, q2⟩ := one_boxH wr (.int .i64 x.id) (.slice x.ad x.zs.length x.cp) (.int .i64 x.us) 45
  have hbox : w5.heap[wr.heap.size]? = some (.cells #[.int .i64 x.id, .slice x.ad x.zs.length x.cp, .int .i64 x.us] 45 (0, 0)) := by
    rw [hg.block wr.heap.size (by simp; omega) (by intro e; injection e with e; omega), heap_alloc_old, heap_alloc_new]
    simp
  have c0 := cell_of_row w5 wr.heap.size 0 _ _ (0, 0) hbox
  have c1 := cell_of_row w5 wr.heap.size 1 _ _ (0, 0) hbox
  have c2 := cell_of_row w5 wr.heap.size 2 _ _ (0, 0) hbox
  have f1 := frozen_of_row w5 wr.heap.size 1 _ _ hbox
  have hbw : Below wr.heap.size wr w5 := (((Below.refl _ _).alloc (Nat.le_refl _) _).alloc (by simp) _).grown hg (by simp; omega) (by intro r hr; injection hr with hr; omega)
  have hb5 := hbw.setCell (Nat.le_refl wr.heap.size) (.slice a5 x.zs.length c5) (p := ⟨wr.heap.size, 1, none⟩)
  refine ⟨⟨c0, c1, c2, f1⟩, ⟨hJ.below hb5, ?_, hb.trans (hb5.mono hb.size), by simp, fun y hy i u r s h1 h2 => by have := ((hJ.ins y hy).blk r h1).2; have := (hO.blk s h2).1; omega⟩⟩
  have := hO.set_below (p := ⟨wr.heap.size, 1, none⟩) (by show wr.heap.size < wr.heap.size + 1; omega) (.slice a5 x.zs.length c5)
  exact this.mono (by have := hb.size; omega)

theorem own_emptyH1 (wr : World) (o : Obj) : OwnI ((wr.alloc o).alloc (.cells #[] 3)) (wr.heap.size + 1) (some ⟨wr.heap.size + 1, 0, none⟩) 0 [] := by
  have := OwnI.empty (w := wr.alloc o) (B := wr.heap.size + 1) (by simp)
  simpa using this

set_option maxHeartbeats 1000000 in
theorem l3CopyH_any (a : Option Addr) (n c : Nat) (xs : List HV) (w : World) (hr : RdR eltH w a n xs) (hin : InH w xs) (hs : ∀ x ∈ xs, 1 ≤ x.zs.length ∧ x.zs.length ≤ 1048576) (hwf : ∀ x ∈ xs, WfI x.zs) (hn : n ≤ 1048576) :
    Calls Try.prog 62 #[.slice a n c] w (RetH w xs) := by
  have hl := Lib.hid hr.1
  have HI := Lib.hid hin
  have HS := Lib.hid hs
  have HW := Lib.hid hwf
  clear hin hs hwf
  go_enter Try.func62, Try.ntmps62
  go_wp2
  have hJ0 : OwnH (w.alloc (.cells #[] 45)) w.heap.size (some ⟨w.heap.size, 0, none⟩) 0 [] := OwnH.empty (Nat.le_refl _)
  have hb0 : Below w.heap.size w (w.alloc (.cells #[] 45)) := (Below.refl _ _).alloc (Nat.le_refl _) _
  go_loopw [3, 4] (fun v q wr => ∃ k : Nat, k ≤ n ∧ q = .int .i64 k ∧ ∃ ys a c, v = .slice a k c ∧ Hid (ys.length = k) ∧ Hid (valsH ys = valsH (xs.take k)) ∧ OwnH wr w.heap.size a c ys ∧ Below w.heap.size w wr)
    (fun _ q _ => n - (intOf q).toNat)
  case atStart => exact ⟨0, Nat.zero_le _, rfl, [], _, _, rfl, Lib.hid rfl, Lib.hid rfl, hJ0, hb0⟩
  case round =>
    clear hJ0 hb0
    obtain ⟨k, hk, rfl, ys, a1, c1, rfl, HL, HV1, hJ, hb⟩ := hrel
    by_cases hlt : k < n
    · obtain ⟨b, off, x, rfl, hbl, hx, d0, d1, d2⟩ := atH (hr.below hb) hlt
      have hsx := HS.out x (List.mem_of_getElem? hx)
      have HX := Lib.hid hx
      obtain ⟨hHl, q0, q1, q2⟩ := one_boxH wr (.int .i64 x.id) (.slice x.ad x.zs.length x.cp) (.int .i64 x.us) 45
      have hbA : Below wr.heap.size wr ((wr.alloc (.cells #[.int .i64 x.id, .slice x.ad x.zs.length x.cp, .int .i64 x.us] 45)).alloc (.cells #[] 3)) := ((Below.refl _ _).alloc (Nat.le_refl _) _).alloc (by simp) _
      obtain ⟨ad, hadx, hcl⟩ := ((HI.out x (List.mem_of_getElem? hx)).below hb).cellsAt hsx.1 hbA
      have HC := Lib.hid hcl
      have HWx := Lib.hid (HW.out x (List.mem_of_getElem? hx))
      have hE := own_emptyH1 wr (.cells #[.int .i64 x.id, .slice x.ad x.zs.length x.cp, .int .i64 x.us] 45)
      have hk0 : (0 : Int) ≤ (k : Int) := by omega
      have hk1 : (k : Int) < (n : Int) := by omega
      have HAD := Lib.hid hadx
      have r1 := (World.cell?_alloc_lt (wr.alloc (.cells #[.int .i64 x.id, .slice x.ad x.zs.length x.cp, .int .i64 x.us] 45)) (.cells #[] 3) ⟨wr.heap.size, 1, none⟩ hHl).trans q1
      have hbsz := hb.size
      clear hx hadx hcl hbA
      go_wp2_with (at_builtin; first
        | (refine wp_app rfl _ _ rfl rfl hE ad x.zs.length x.cp x.zs (by rw [← HAD.out]; rfl) rfl HC.out HWx.out (by simp; omega) (by simp) ?_; intro a5 c5 w5 hO5 hG5; obtain ⟨⟨p0, p1, p2, f1⟩, hS⟩ := copyStepH (x := x) hJ hb hG5 hO5)
        | (refine wp_appR eltH rfl _ _ rfl HL.out rfl (hS.own.row.alloc _) ⟨w5.heap.size, 0, none⟩ 1 1 [⟨x.id, a5, c5, x.zs, x.us⟩] rfl rfl (newHV_atH _ _ hS.size ⟨x.id, a5, c5, x.zs, x.us⟩) (by omega) (by have := hS.bel.size; simp at this ⊢; omega) ?_; intro a6 c6 w6 hR6 hG6))
      have hJ6 := hS.own.push (x := ⟨x.id, a5, c5, x.zs, x.us⟩) HL.out hS.new (fun y hy => hS.ap y hy x.id x.us) hG6 hR6
      have hb6 : Below w.heap.size w w6 := (hS.bel.alloc hS.bel.size _).grown hG6 (by have := hS.bel.size; simp at this ⊢; omega) (fun r hr => (hS.own.row.lt r (by rw [HL.out]; exact hr)).1)
      have HL6 : Hid ((ys ++ [(⟨x.id, a5, c5, x.zs, x.us⟩ : HV)]).length = k + 1) := Lib.hid (by rw [List.length_append, HL.out]; rfl)
      have HV6 := Lib.hid (vals_snoc (y := ⟨x.id, a5, c5, x.zs, x.us⟩) HV1.out HX.out rfl)
      clear hR6 hG6 hS hJ hb p0 p1 p2 f1 hO5 hG5 q0 q1 q2 r1 hE
      go_roundw
      case rel => exact ⟨k + 1, by omega, by go_num, _, a6, c6, rfl, HL6, HV6, hJ6, hb6⟩
      case measure => simp [intOf]; omega
    · obtain rfl : k = n := by omega
      have HF : Hid (valsH ys = valsH xs) := Lib.hid (by have := HV1.out; rwa [List.take_of_length_le (by have := hl.out; omega)] at this)
      go_wp2
      go_ret
      exact ⟨ys, a1, c1, by rw [hl.out]; rfl, by rw [HL.out, hl.out], HF.out, hJ, hb⟩

end Go.Proofs.Ytajheicheefpeaa

/- A byte of an element's own list is written. -/
namespace Go.Proofs.Ytajheicheefpeaa
open Go.RowKit
set_option linter.unusedVariables false

theorem flat_same {xs : List HV} {k : Nat} {x y : HV} (hx : xs[k]? = some x) (he : eltH.enc y = eltH.enc x) : eltH.flat (xs.set k y) = eltH.flat xs := by
  induction xs generalizing k with
  | nil => simp at hx
  | cons p ps ih =>
    cases k with
    | zero =>
      simp only [List.getElem?_cons_zero, Option.some.injEq] at hx
      subst hx
      rw [List.set_cons_zero, eltH.flat_cons, eltH.flat_cons, he]
    | succ k =>
      rw [List.set_cons_succ, eltH.flat_cons, eltH.flat_cons, ih (by simpa using hx)]

theorem OwnH.setByte {w : World} {B bb j : Nat} {a : Option Addr} {c : Nat} {xs : List HV} {k : Nat} {x : HV} {v : Int} (h : OwnH w B a c xs) (hx : xs[k]? = some x) (ha : x.ad = some ⟨bb, 0, none⟩) (h0 : -9223372036854775808 ≤ v) (h1 : v ≤ 9223372036854775807) :
    OwnH (w.setCell ⟨bb, j, none⟩ (.int .i64 v)) B a c (xs.set k ⟨x.id, x.ad, x.cp, x.zs.set j v, x.us⟩) ∧ w.grownBy (w.setCell ⟨bb, j, none⟩ (.int .i64 v)) (some bb) ∧ B ≤ bb := by
  have hI := h.ins x (List.mem_of_getElem? hx)
  have hblk : (Value.slice x.ad x.zs.length x.cp).ownBlock = some bb := by rw [ha]; rfl
  have hI' := hI
  rw [ha] at hI'
  have hs := hI'.set j v h0 h1
  obtain ⟨cs, fz, hk⟩ := hI.kindI bb hblk
  obtain ⟨hkl, hxe⟩ := List.getElem?_eq_some_iff.1 hx
  refine ⟨⟨?_, ?_, ?_⟩, hs.2, (hI.blk bb hblk).1⟩
  · have hrow := h.row.apart hs.2 (fun q hq r hr e => by
      injection hr with hr
      subst hr
      subst e
      obtain ⟨cs', fz', h2⟩ := h.row.kindR _ hq
      rw [hk] at h2
      injection h2 with h2
      injection h2 with _ h2
      exact eltH_ty h2.symm)
    unfold OwnR at hrow ⊢
    rw [List.length_set, flat_same hx (by simp [eltH, encH])]
    exact hrow
  · intro z hz
    obtain ⟨i, hi, rfl⟩ := List.getElem_of_mem hz
    have hi' : i < xs.length := by simpa using hi
    rw [List.getElem_set]
    split
    · simp only
      rw [ha]
      exact hs.1
    · rename_i hne
      refine (h.ins xs[i] (List.getElem_mem hi')).apartI hs.2 (fun q hq r hr e => ?_)
      injection hr with hr
      subst hr
      subst e
      rcases Nat.lt_or_gt_of_ne hne with hlt | hlt
      · have := (List.pairwise_iff_getElem.1 h.apart) k i hkl hi' hlt
        rw [hxe] at this
        exact this _ _ hblk hq rfl
      · have := (List.pairwise_iff_getElem.1 h.apart) i k hi' hkl hlt
        rw [hxe] at this
        exact this _ _ hq hblk rfl
  · refine pairwise_set h.apart (fun i z hi hz => ?_) (fun i z hi hz => ?_)
    · obtain ⟨hi', hze⟩ := List.getElem?_eq_some_iff.1 hz
      have := (List.pairwise_iff_getElem.1 h.apart) i k hi' hkl hi
      rw [hze, hxe] at this
      intro r s h1 h2
      simp only [List.length_set] at h2
      exact this r s h1 h2
    · obtain ⟨hi', hze⟩ := List.getElem?_eq_some_iff.1 hz
      have := (List.pairwise_iff_getElem.1 h.apart) k i hkl hi' hi
      rw [hze, hxe] at this
      intro r s h1 h2
      simp only [List.length_set] at h1
      exact this r s h1 h2

theorem DH.setByte {w wr : World} {B g : Nat} {lim : Int} {W : World} {a : Option Addr} {c L bb j k : Nat} {zs : List HV} {x : HV} {v : Int} (h : DH w wr B g lim W a c L zs) (hx : zs[k]? = some x) (ha : x.ad = some ⟨bb, 0, none⟩) (h0 : -9223372036854775808 ≤ v) (h1 : v ≤ 9223372036854775807) (hle : w.heap.size ≤ wr.heap.size) :
    DH w wr B g lim (W.setCell ⟨bb, j, none⟩ (.int .i64 v)) a c L (zs.set k ⟨x.id, x.ad, x.cp, x.zs.set j v, x.us⟩) := by
  obtain ⟨hO, hg, hB⟩ := h.own.setByte (j := j) hx ha h0 h1
  have hsx := h.sm x (List.mem_of_getElem? hx)
  have hlt := h.lt
  refine ⟨by rw [List.length_set, h.len], h.sm.set k (by simpa using hsx), hO, h.drawn.step hg (fun r e => by injection e with e; omega), ?_, h.lt⟩
  refine ⟨hg.os.trans h.grow.os, hg.tape.trans h.grow.tape, hg.output.trans h.grow.output, Nat.le_trans h.grow.size hg.size, fun q hq hn => ?_⟩
  exact (hg.block q (Nat.lt_of_lt_of_le hq h.grow.size) (fun e => by injection e with e; omega)).trans (h.grow.block q hq hn)

theorem SmH.vals {xs ys : List HV} (h : SmH xs) (hv : valsH ys = valsH xs) : SmH ys := by
  intro y hy
  have hm : y.val ∈ valsH ys := List.mem_map_of_mem hy
  rw [hv] at hm
  obtain ⟨x, hx, he⟩ := List.mem_map.1 hm
  have hs := h x hx
  have e1 : x.id = y.id := congrArg (fun p : Int × List Int × Int => p.1) he
  have e2 : x.zs = y.zs := congrArg (fun p : Int × List Int × Int => p.2.1) he
  have e3 : x.us = y.us := congrArg (fun p : Int × List Int × Int => p.2.2) he
  rw [← e1, ← e2, ← e3]; exact hs

theorem DH.drew {w wr : World} {B g : Nat} {lim : Int} {W : World} {a : Option Addr} {c L : Nat} {zs : List HV} (h : DH w wr B g lim W a c L zs) : DH w wr B g lim W.drew a c L zs :=
  h.pick (W' := W.drew) (h.drawn.step (row := none) ⟨rfl, rfl, rfl, Nat.le_refl _, fun _ _ _ => rfl⟩ (fun r e => by cases e)) ⟨rfl, rfl, rfl, Nat.le_refl _, fun _ _ _ => rfl⟩

/-- A byte of an element, and that it may be written. -/
theorem DH.byte {w wr : World} {B g : Nat} {lim : Int} {W : World} {a : Option Addr} {c L bb j k : Nat} {zs : List HV} {x : HV} (h : DH w wr B g lim W a c L zs) (hx : zs[k]? = some x) (ha : x.ad = some ⟨bb, 0, none⟩) (hj : j < x.zs.length) :
    W.cell? ⟨bb, j, none⟩ = some (.int .i64 (x.zs.getD j 0)) ∧ W.frozen? ⟨bb, j, none⟩ = false := by
  have hI := h.own.ins x (List.mem_of_getElem? hx)
  rw [ha] at hI
  refine ⟨?_, hI.2.frozenAt _⟩
  have := hI.cells j _ (getElem?_ints x.zs j hj)
  rw [Addr.add_lit, Nat.zero_add] at this
  exact this

end Go.Proofs.Ytajheicheefpeaa

/- Contract of the draw of damage. -/
namespace Go.Proofs.Ytajheicheefpeaa
open Go.RowKit
set_option linter.unusedVariables false
set_option linter.unusedSimpArgs false

/-- A store with damage was drawn. -/
def DrewD (w wr : World) (B g : Nat) (lim : Int) (e : Ending) (w' : World) : Prop :=
  ∃ xs a n c, e = .returned (.slice a n c) ∧ Hid (xs.length = n) ∧ n ≤ 16 ∧ n ≤ c ∧ c ≤ maxLen ∧ (∀ x ∈ xs, x.zs.length ≤ 8) ∧ RdR eltH w' a n xs ∧ InH w' xs ∧ Drawn w w' B g lim ∧ wr.grownBy w' (some g)

theorem DH.ret {w wr : World} {B g : Nat} {lim lim' : Int} {W : World} {a : Option Addr} {c L : Nat} {zs : List HV} (h : DH w wr B g lim W a c L zs) (hl : lim ≤ lim') (hL : L ≤ 16) : DrewD w wr B g lim' (.returned (.slice a L c)) W := by
  have hr := h.own.row.rd
  have hc := h.own.row.cap
  rw [h.len] at hr hc
  exact ⟨zs, a, L, c, rfl, Lib.hid h.len, hL, hc.1, hc.2, fun x hx => (h.sm x hx).2.1, hr, h.own.inn, h.drawn.le hl, h.grow⟩

/-- All but the first. -/
theorem DH.ret1 {w wr : World} {B g : Nat} {lim lim' : Int} {W : World} {gg c L : Nat} {zs : List HV} (h : DH w wr B g lim W (some ⟨gg, 0, none⟩) c L zs) (hl : lim ≤ lim') (hL : L ≤ 16) (h0 : 1 ≤ L) : DrewD w wr B g lim' (.returned (.slice (some ⟨gg, 3, none⟩) (L - 1) (c - 1))) W := by
  have hr := h.own.row.rd
  have hc := h.own.row.cap
  rw [h.len] at hr hc
  have hs := hr.suf h0
  exact ⟨zs.drop 1, _, L - 1, c - 1, rfl, Lib.hid (by rw [List.length_drop, h.len]), by omega, by omega, by omega, fun x hx => (h.sm x (List.mem_of_mem_drop hx)).2.1, hs, fun x hx => h.own.inn x (List.mem_of_mem_drop hx), h.drawn.le hl, h.grow⟩

set_option maxRecDepth 100000 in
set_option maxHeartbeats 1000000 in
theorem l92Damage_any (B g : Nat) (w wr : World) (lim : Int) (h : Drawn w wr B g lim) (hl : lim ≤ 1000000000) (a : Option Addr) (n c : Nat) (xs : List HV) (hr : RdR eltH wr a n xs) (hi : InH wr xs) (hsm : SmH xs) (hwf : ∀ x ∈ xs, WfI x.zs) (hn : n ≤ 16) :
    Calls Try.prog 48 #[.pointer (some ⟨g, 0, none⟩), .slice a n c] wr (DrewD w wr B g (lim + 100)) := by
  have HLE := Lib.hid h.2.size
  have K := l3CopyH_any a n c xs wr hr hi (fun x hx => by have := hsm x hx; omega) hwf (by omega)
  have hxl := hr.1
  go_enter Try.func48, Try.ntmps48
  go_wp2_with fail
  with_reducible refine K.mono ?_
  rintro e w1 ⟨zs, a1, c1, rfl, hzl, hzv, hO, hb⟩
  have hS0 : DH w wr B g lim w1 a1 c1 n zs := ⟨by rw [hzl, hxl], hsm.vals hzv, hO, h.step (row := none) (grownBy_of_below hb _) (fun r e => by cases e), grownBy_of_below hb _, h.lt⟩
  rw [hxl]
  clear K hr hi hsm hwf hxl hzl hzv hO hb h
  go_wp2_with fail
  go_loopw [6] (fun i W => ∃ k : Nat, k ≤ n ∧ i = .int .i64 k ∧ ∃ zs, DH w wr B g (lim + 3 * k) W a1 c1 n zs)
    (fun i _ => n - (intOf i).toNat)
  case atStart => exact ⟨0, Nat.zero_le _, rfl, zs, hS0.le (by omega)⟩
  case round =>
    clear hS0
    obtain ⟨k, hk, rfl, zs, hS⟩ := hrel
    by_cases hlt : k < n
    · go_wp2_with fail
      refine (pickD _ hS.drawn (by omega)).mono ?_
      rintro e w2 ⟨t, rfl, t0, t1, hD, hg⟩
      have hS2 := hS.pick hD hg
      clear hD hg hS t1
      by_cases ht : t = 0
      · subst ht
        obtain ⟨gg, rfl, hBg, hgg⟩ := hS2.own.row.head (by rw [hS2.len]; omega)
        obtain ⟨x, hx⟩ : ∃ x, zs[k]? = some x := ⟨_, List.getElem?_eq_getElem (by rw [hS2.len]; omega)⟩
        have c1' := (cellsH hS2.own.row hx).1.2.1
        have hsx := hS2.sm x (List.mem_of_getElem? hx)
        have hI := hS2.own.ins x (List.mem_of_getElem? hx)
        obtain ⟨bb, hbb, hBb, hbl⟩ := hI.head (by omega)
        obtain ⟨cs1, fz1, hkb⟩ := hI.kindI bb (by rw [hbb]; rfl)
        obtain ⟨cs2, hkg⟩ := hS2.own.row.heapAt
        have hbg : ¬ bb = gg := by
          intro e
          rw [e, hkg] at hkb
          injection hkb with hkb
          injection hkb with _ hkb
          exact eltH_ty hkb
        obtain ⟨m, hm⟩ : ∃ m, x.zs.length = m := ⟨_, rfl⟩
        rw [hbb, hm] at c1'
        rw [hm] at hsx
        have HX := Lib.hid hx
        have HB := Lib.hid hbb
        have hk0 : (0 : Int) ≤ (k : Int) := by omega
        have hk1 : (k : Int) < (n : Int) := by omega
        clear hx hbb hI hkb hkg
        go_wp2_with fail
        refine (pickD _ hS2.drawn (by omega)).mono ?_
        rintro e w3 ⟨j, rfl, j0, j1, hD, hg⟩
        have j2 := j1 (by omega)
        have hS3 := hS2.pick hD hg
        have hng : some (⟨gg, k * 3 + 1, none⟩ : Addr).block ≠ some g := by intro h; injection h with h; have := hS3.lt; simp only at h; omega
        have c3 := hg.cell c1' hng
        clear hD hg hS2 j1 c1'
        obtain ⟨j, rfl⟩ := Int.eq_ofNat_of_zero_le j0
        have hjm : j < m := by omega
        have HJ := Lib.hid (show j < x.zs.length by rw [hm]; exact hjm)
        clear hm
        have hdr : w3.drew.cell? ⟨gg, k * 3 + 1, none⟩ = some (.slice (some ⟨bb, 0, none⟩) m x.cp) := c3
        go_upto_region 7 with fail
        clear c3
        refine wp_region_noPanic ?_
        refine wp_region_held_drew (S := fun w' => w'.cell? ⟨gg, k * 3 + 1, none⟩ = some (.slice (some ⟨bb, 0, none⟩) m x.cp)) (by kernel_rfl) ?_ (fun hHeld => ?_)
        · exact hdr
        have hG := hS3.drew
        clear hS3 hdr
        generalize w3.drew = wd at hG hHeld ⊢
        obtain ⟨cb, fb⟩ := hG.byte (j := j) HX.out HB.out HJ.out
        obtain ⟨bt, hbt⟩ : ∃ bt, x.zs.getD j 0 = bt := ⟨_, rfl⟩
        rw [hbt] at cb
        refine held_yes (i := 0) 27 (v := ?_) rfl rfl (by kernel_rfl) (by kernel_rfl) (by kernel_rfl) (fun _ _ _ _ _ h => h) (by rfl) (by assumption) ?_ ?_
        rotate_left 1
        · intro w hSw
          (try dsimp only at hSw)
          first | (go_simp; done) | (go_simp; with_reducible rfl)
        try simp only [Act.put, List.setIfInBounds_toArray, List.set_cons_zero, List.set_cons_succ]
        refine held_yes (i := 1) 28 (v := ?_) rfl rfl (by kernel_rfl) (by kernel_rfl) (by kernel_rfl) (fun _ _ _ _ _ h => h) (by rfl) (by assumption) ?_ ?_
        rotate_left 1
        · intro w hSw
          (try dsimp only at hSw)
          first | (go_simp; done) | (go_simp; with_reducible rfl)
        try simp only [Act.put, List.setIfInBounds_toArray, List.set_cons_zero, List.set_cons_succ]
        refine held_yes (i := 2) 29 (v := ?_) rfl rfl (by kernel_rfl) (by kernel_rfl) (by kernel_rfl) (fun _ _ _ _ _ h => h) (by rfl) (by assumption) ?_ ?_
        rotate_left 1
        · intro w hSw
          (try dsimp only at hSw)
          first | (go_simp; done) | (go_simp; with_reducible rfl)
        try simp only [Act.put, List.setIfInBounds_toArray, List.set_cons_zero, List.set_cons_succ]
        refine held_yes (i := 3) 30 (v := ?_) rfl rfl (by kernel_rfl) (by kernel_rfl) (by kernel_rfl) (fun _ _ _ _ _ h => h) (by rfl) (by assumption) ?_ ?_
        rotate_left 1
        · intro w hSw
          (try dsimp only at hSw)
          first | (go_simp; done) | (go_simp; with_reducible rfl)
        try simp only [Act.put, List.setIfInBounds_toArray, List.set_cons_zero, List.set_cons_succ]
        refine held_yes (i := 4) 31 (v := ?_) rfl rfl (by kernel_rfl) (by kernel_rfl) (by kernel_rfl) (fun _ _ _ _ _ h => h) (by rfl) (by assumption) ?_ ?_
        rotate_left 1
        · intro w hSw
          (try dsimp only at hSw)
          first | (go_simp; done) | (go_simp; with_reducible rfl)
        try simp only [Act.put, List.setIfInBounds_toArray, List.set_cons_zero, List.set_cons_succ]
        refine held_yes (i := 5) 32 (v := ?_) rfl rfl (by kernel_rfl) (by kernel_rfl) (by kernel_rfl) (fun _ _ _ _ _ h => h) (by rfl) (by assumption) ?_ ?_
        rotate_left 1
        · intro w hSw
          (try dsimp only at hSw)
          first | (go_simp; done) | (go_simp; with_reducible rfl)
        try simp only [Act.put, List.setIfInBounds_toArray, List.set_cons_zero, List.set_cons_succ]
        refine held_yes (i := 6) 33 (v := ?_) rfl rfl (by kernel_rfl) (by kernel_rfl) (by kernel_rfl) (fun _ _ _ _ _ h => h) (by rfl) (by assumption) ?_ ?_
        rotate_left 1
        · intro w hSw
          (try dsimp only at hSw)
          first | (go_simp; done) | (go_simp; with_reducible rfl)
        try simp only [Act.put, List.setIfInBounds_toArray, List.set_cons_zero, List.set_cons_succ]
        refine held_yes (i := 7) 34 (v := ?_) rfl rfl (by kernel_rfl) (by kernel_rfl) (by kernel_rfl) (fun _ _ _ _ _ h => h) (by rfl) (by assumption) ?_ ?_
        rotate_left 1
        · intro w hSw
          (try dsimp only at hSw)
          first | (go_simp; done) | (go_simp; with_reducible rfl)
        try simp only [Act.put, List.setIfInBounds_toArray, List.set_cons_zero, List.set_cons_succ]
        refine held_yes (i := 8) 35 (v := ?_) rfl rfl (by kernel_rfl) (by kernel_rfl) (by kernel_rfl) (fun _ _ _ _ _ h => h) (by rfl) (by assumption) ?_ ?_
        rotate_left 1
        · intro w hSw
          (try dsimp only at hSw)
          first | (go_simp; done) | (go_simp; with_reducible rfl)
        try simp only [Act.put, List.setIfInBounds_toArray, List.set_cons_zero, List.set_cons_succ]
        refine held_yes (i := 9) 36 (v := ?_) rfl rfl (by kernel_rfl) (by kernel_rfl) (by kernel_rfl) (fun _ _ _ _ _ h => h) (by rfl) (by assumption) ?_ ?_
        rotate_left 1
        · intro w hSw
          (try dsimp only at hSw)
          first | (go_simp; done) | (go_simp; with_reducible rfl)
        try simp only [Act.put, List.setIfInBounds_toArray, List.set_cons_zero, List.set_cons_succ]
        refine held_yes (i := 10) 37 (v := ?_) rfl rfl (by kernel_rfl) (by kernel_rfl) (by kernel_rfl) (fun _ _ _ _ _ h => h) (by rfl) (by assumption) ?_ ?_
        rotate_left 1
        · intro w hSw
          (try dsimp only at hSw)
          first | (go_simp; done) | (go_simp; with_reducible rfl)
        try simp only [Act.put, List.setIfInBounds_toArray, List.set_cons_zero, List.set_cons_succ]
        refine held_yes (i := 11) 38 (v := ?_) rfl rfl (by kernel_rfl) (by kernel_rfl) (by kernel_rfl) (fun _ _ _ _ _ h => h) (by rfl) (by assumption) ?_ ?_
        rotate_left 1
        · intro w hSw
          (try dsimp only at hSw)
          first | (go_simp; done) | (go_simp; with_reducible rfl)
        try simp only [Act.put, List.setIfInBounds_toArray, List.set_cons_zero, List.set_cons_succ]
        refine held_yes (i := 12) 39 (v := ?_) rfl rfl (by kernel_rfl) (by kernel_rfl) (by kernel_rfl) (fun _ _ _ _ _ h => h) (by rfl) (by assumption) ?_ ?_
        rotate_left 1
        · intro w hSw
          (try dsimp only at hSw)
          first | (go_simp; done) | (go_simp; with_reducible rfl)
        try simp only [Act.put, List.setIfInBounds_toArray, List.set_cons_zero, List.set_cons_succ]
        refine held_yes (i := 15) 42 (v := ?_) rfl rfl (by kernel_rfl) (by kernel_rfl) (by kernel_rfl) (fun _ _ _ _ _ h => h) (by rfl) (by assumption) ?_ ?_
        rotate_left 1
        · intro w hSw
          (try dsimp only at hSw)
          first | (go_simp; done) | (go_simp; with_reducible rfl)
        try simp only [Act.put, List.setIfInBounds_toArray, List.set_cons_zero, List.set_cons_succ]
        refine wpAnyH_ready (rs := [13, 16]) (by kernel_rfl) (by simp) ?_
        refine (AllReadyH.cons rfl (fun K hK => ?_) (AllReadyH.cons rfl (fun K hK => ?_) AllReadyH.nil))
        · go_simp
          refine hK.out _ _ ?_ (fun hHeld => ?_)
          · exact hHeld
          clear hK K
          try simp only [Act.put, List.setIfInBounds_toArray, List.set_cons_zero, List.set_cons_succ]
          refine held_yes (i := 14) 41 (v := ?_) rfl rfl (by kernel_rfl) (by kernel_rfl) (by kernel_rfl) (fun _ _ _ _ _ h => h) (by rfl) (by assumption) ?_ ?_
          rotate_left 1
          · intro w hSw
            (try dsimp only at hSw)
            first | (go_simp; done) | (go_simp; with_reducible rfl)
          try simp only [Act.put, List.setIfInBounds_toArray, List.set_cons_zero, List.set_cons_succ]
          refine wpAnyH_ready (rs := [16]) (by kernel_rfl) (by simp) ?_
          refine (AllReadyH.cons rfl (fun K hK => ?_) AllReadyH.nil)
          go_simp
          with_reducible refine (pickD _ hG.drawn (by omega)).mono ?_
          rintro e w4 ⟨y, rfl, y0, y1, hD, hg⟩
          have y2 := y1 (by omega)
          have hG4 := hG.pick hD hg
          obtain ⟨cb4, fb4⟩ := hG4.byte (j := j) HX.out HB.out HJ.out
          have hHeld4 := hg.cell hHeld hng
          clear y1 hD hg hG
          go_wp2_with fail
          refine hK.out _ _ ?_ (fun hHeld => ?_)
          · exact hHeld4
          clear hK K
          try simp only [Act.put, List.setIfInBounds_toArray, List.set_cons_zero, List.set_cons_succ]
          refine held_yes (i := 17) 44 (v := ?_) rfl rfl (by kernel_rfl) (by kernel_rfl) (by kernel_rfl) (fun _ _ _ _ _ h => h) (by rfl) (by assumption) ?_ ?_
          rotate_left 1
          · intro w hSw
            (try dsimp only at hSw)
            first | (go_simp; done) | (go_simp; with_reducible rfl)
          try simp only [Act.put, List.setIfInBounds_toArray, List.set_cons_zero, List.set_cons_succ]
          refine held_yes (i := 18) 45 (v := ?_) rfl rfl (by kernel_rfl) (by kernel_rfl) (by kernel_rfl) (fun _ _ _ _ _ h => h) (by rfl) (by assumption) ?_ ?_
          rotate_left 1
          · intro w hSw
            (try dsimp only at hSw)
            first | (go_simp; done) | (go_simp; with_reducible rfl)
          try simp only [Act.put, List.setIfInBounds_toArray, List.set_cons_zero, List.set_cons_succ]
          refine held_yes (i := 19) 46 (v := ?_) rfl rfl (by kernel_rfl) (by kernel_rfl) (by kernel_rfl) (fun _ _ _ _ _ h => h) (by rfl) (by assumption) ?_ ?_
          rotate_left 1
          · intro w hSw
            (try dsimp only at hSw)
            first | (go_simp; done) | (go_simp; with_reducible rfl)
          try simp only [Act.put, List.setIfInBounds_toArray, List.set_cons_zero, List.set_cons_succ]
          refine wpAnyH_ready (rs := [20]) (by kernel_rfl) (by simp) ?_
          refine (AllReadyH.cons rfl (fun K hK => ?_) AllReadyH.nil)
          obtain ⟨V, hV⟩ : ∃ V, V = (IntKind.i64.wrap (IntKind.i64.wrap (bt + 1) + y)).tmod 256 := ⟨_, rfl⟩
          have hV0 : -256 < V := by rw [hV]; exact Int.lt_tmod_of_pos _ (by decide)
          have hV1 : V < 256 := by rw [hV]; exact Int.tmod_lt_of_pos _ (by decide)
          rw [← hV]
          replace hV := Lib.hid hV
          have hF := Lib.hid (hG4.setByte (j := j) (v := V) HX.out HB.out (by omega) (by omega) HLE.out)
          have hH2 := Lib.hid ((World.cell?_setCell_other w4 ⟨bb, j, none⟩ ⟨gg, k * 3 + 1, none⟩ (.int .i64 V) (fun e => by injection e with e1 e2; omega)).trans hHeld)
          clear hG4
          go_simp
          refine hK.out _ _ ?_ (fun hHeld => ?_)
          · exact hH2.out
          clear hK K
          try simp only [Act.put, List.setIfInBounds_toArray, List.set_cons_zero, List.set_cons_succ]
          refine wpAnyH_done (by kernel_rfl) ?_ _
          refine NoPanic.normal ?_
          clear hHeld hH2 cb4 fb4
          go_wp2
          go_roundw
          case rel => exact ⟨k + 1, by omega, by go_num, _, hF.out.le (by omega)⟩
          case measure => simp [intOf]; omega
        · go_simp
          with_reducible refine (pickD _ hG.drawn (by omega)).mono ?_
          rintro e w4 ⟨y, rfl, y0, y1, hD, hg⟩
          have y2 := y1 (by omega)
          have hG4 := hG.pick hD hg
          obtain ⟨cb4, fb4⟩ := hG4.byte (j := j) HX.out HB.out HJ.out; rw [hbt] at cb4
          have hHeld4 := hg.cell hHeld hng
          clear y1 hD hg hG
          go_wp2_with fail
          refine hK.out _ _ ?_ (fun hHeld => ?_)
          · exact hHeld4
          clear hK K
          try simp only [Act.put, List.setIfInBounds_toArray, List.set_cons_zero, List.set_cons_succ]
          refine wpAnyH_ready (rs := [13]) (by kernel_rfl) (by simp) ?_
          refine (AllReadyH.cons rfl (fun K hK => ?_) AllReadyH.nil)
          go_simp
          refine hK.out _ _ ?_ (fun hHeld => ?_)
          · exact hHeld
          clear hK K
          try simp only [Act.put, List.setIfInBounds_toArray, List.set_cons_zero, List.set_cons_succ]
          refine held_yes (i := 14) 41 (v := ?_) rfl rfl (by kernel_rfl) (by kernel_rfl) (by kernel_rfl) (fun _ _ _ _ _ h => h) (by rfl) (by assumption) ?_ ?_
          rotate_left 1
          · intro w hSw
            (try dsimp only at hSw)
            first | (go_simp; done) | (go_simp; with_reducible rfl)
          try simp only [Act.put, List.setIfInBounds_toArray, List.set_cons_zero, List.set_cons_succ]
          refine held_yes (i := 17) 44 (v := ?_) rfl rfl (by kernel_rfl) (by kernel_rfl) (by kernel_rfl) (fun _ _ _ _ _ h => h) (by rfl) (by assumption) ?_ ?_
          rotate_left 1
          · intro w hSw
            (try dsimp only at hSw)
            first | (go_simp; done) | (go_simp; with_reducible rfl)
          try simp only [Act.put, List.setIfInBounds_toArray, List.set_cons_zero, List.set_cons_succ]
          refine held_yes (i := 18) 45 (v := ?_) rfl rfl (by kernel_rfl) (by kernel_rfl) (by kernel_rfl) (fun _ _ _ _ _ h => h) (by rfl) (by assumption) ?_ ?_
          rotate_left 1
          · intro w hSw
            (try dsimp only at hSw)
            first | (go_simp; done) | (go_simp; with_reducible rfl)
          try simp only [Act.put, List.setIfInBounds_toArray, List.set_cons_zero, List.set_cons_succ]
          refine held_yes (i := 19) 46 (v := ?_) rfl rfl (by kernel_rfl) (by kernel_rfl) (by kernel_rfl) (fun _ _ _ _ _ h => h) (by rfl) (by assumption) ?_ ?_
          rotate_left 1
          · intro w hSw
            (try dsimp only at hSw)
            first | (go_simp; done) | (go_simp; with_reducible rfl)
          try simp only [Act.put, List.setIfInBounds_toArray, List.set_cons_zero, List.set_cons_succ]
          refine wpAnyH_ready (rs := [20]) (by kernel_rfl) (by simp) ?_
          refine (AllReadyH.cons rfl (fun K hK => ?_) AllReadyH.nil)
          obtain ⟨V, hV⟩ : ∃ V, V = (IntKind.i64.wrap (IntKind.i64.wrap (bt + 1) + y)).tmod 256 := ⟨_, rfl⟩
          have hV0 : -256 < V := by rw [hV]; exact Int.lt_tmod_of_pos _ (by decide)
          have hV1 : V < 256 := by rw [hV]; exact Int.tmod_lt_of_pos _ (by decide)
          rw [← hV]
          replace hV := Lib.hid hV
          have hF := Lib.hid (hG4.setByte (j := j) (v := V) HX.out HB.out (by omega) (by omega) HLE.out)
          have hH2 := Lib.hid ((World.cell?_setCell_other w4 ⟨bb, j, none⟩ ⟨gg, k * 3 + 1, none⟩ (.int .i64 V) (fun e => by injection e with e1 e2; omega)).trans hHeld)
          clear hG4
          go_simp
          refine hK.out _ _ ?_ (fun hHeld => ?_)
          · exact hH2.out
          clear hK K
          try simp only [Act.put, List.setIfInBounds_toArray, List.set_cons_zero, List.set_cons_succ]
          refine wpAnyH_done (by kernel_rfl) ?_ _
          refine NoPanic.normal ?_
          clear hHeld hH2 cb4 fb4
          go_wp2
          go_roundw
          case rel => exact ⟨k + 1, by omega, by go_num, _, hF.out.le (by omega)⟩
          case measure => simp [intOf]; omega
      · have ht0 : (t == 0) = false := by simp [ht]
        go_wp2
        go_roundw
        case rel => exact ⟨k + 1, by omega, by go_num, zs, hS2.le (by omega)⟩
        case measure => simp [intOf]; omega
    · obtain rfl : k = n := by omega
      by_cases h0 : k = 0
      · subst h0
        go_wp2
        go_ret
        exact hS.ret (lim' := lim + 100) (by omega) (by omega)
      · have hkp : 0 < k := by omega
        have hkz : (0 : Int) < (k : Int) := by omega
        go_wp2_with fail
        refine (pickD _ hS.drawn (by omega)).mono ?_
        rintro e w2 ⟨t, rfl, t0, t1, hD, hg⟩
        have hS2 := hS.pick hD hg
        clear hD hg hS t1
        by_cases ht : t = 0
        · subst ht
          obtain ⟨gg, rfl, hBg, hgg⟩ := hS2.own.row.head (by rw [hS2.len]; omega)
          have hcp := hS2.own.row.cap
          rw [hS2.len] at hcp
          by_cases hc1 : c1 = 1
          · subst hc1
            obtain rfl : k = 1 := by omega
            clear hcp
            go_wp2
            go_ret
            exact ⟨[], _, 0, 0, rfl, Lib.hid rfl, by omega, by omega, by unfold maxLen; omega, (by intro x hx; cases hx), ⟨rfl, fun i hi => by omega⟩, (by intro x hx; cases hx), hS2.drawn.le (by omega), hS2.grow⟩
          · have hc2 : 1 < c1 := by omega
            have hc3 : 1 ≤ k := hkp
            clear hcp
            go_wp2
            go_ret
            exact hS2.ret1 (lim' := lim + 100) (by omega) (by omega) (by omega)
        · have ht0 : (t == 0) = false := by simp [ht]
          go_wp2
          go_ret
          exact hS2.ret (lim' := lim + 100) (by omega) (by omega)

end Go.Proofs.Ytajheicheefpeaa

/- Contract of DrawChecksBad: a store, often damaged, and sums. -/
namespace Go.Proofs.Ytajheicheefpeaa
open Go.RowKit
set_option linter.unusedVariables false

/-- A store and sums were drawn. -/
def GotCB (w : World) (e : Ending) (w' : World) : Prop :=
  ∃ (xs : List HV) (la : Option Addr) (nl lc : Nat) (cs : List (Int × Int)) (ka : Option Addr) (nk kc : Nat), e = .returned (.tuple #[.slice la nl lc, .slice ka nk kc]) ∧ Hid (xs.length = nl) ∧ nl ≤ 16 ∧ nl ≤ lc ∧ lc ≤ maxLen ∧ (∀ x ∈ xs, x.zs.length ≤ 8) ∧ RdR eltH w' la nl xs ∧ InH w' xs ∧
    Hid (cs.length = nk) ∧ nk ≤ 16 ∧ RdX w' ka nk cs ∧ WfX cs ∧ Below w.heap.size w w'

set_option maxHeartbeats 1000000 in
theorem DrawChecksBad_any (a : Option Addr) (n c : Nat) (w : World) (h : RdC w a n) (hc : n ≤ c) (hn : n ≤ 1048576) :
    Calls Try.prog 28 #[.slice a n c] w (GotCB w) := by
  go_enter Try.func28, Try.ntmps28
  go_wp2_with fail
  with_reducible refine (l6Open_any a n c _ h hc hn).mono ?_
  rintro e w1 ⟨rfl, hR, hb1, hsz⟩
  have HZ := Lib.hid hsz
  have HB1 := Lib.hid hb1
  have hgl : w.heap.size < w1.heap.size := by omega
  clear hsz h hb1
  have K := l91Store_any _ _ w1 w1 _ (Drawn.start hR) (by omega)
  go_wp2_with fail
  with_reducible refine K.mono ?_
  rintro e w2 ⟨zs, a2, c2, rfl, hz16, hsm, hO2, hD2, hg2⟩
  clear K hR
  have hO2r := hO2.row.rd
  obtain ⟨N, hN⟩ : ∃ N, zs.length = N := ⟨_, rfl⟩
  rw [hN] at hz16 hO2r ⊢
  have K := l92Checks_any _ _ w1 w2 _ hD2 (by omega) a2 N c2 zs hO2r hO2.inn (fun x hx => by have := (hsm x hx).2.1; omega) hz16
  have HSM := Lib.hid hsm
  have HN := Lib.hid hN
  clear hN hsm hO2r
  go_wp2_with fail
  with_reducible refine K.mono ?_
  rintro e w3 ⟨cs, ka, kc, rfl, hk16, hX3, hD3, hg3⟩
  have hO3 := hO2.grown hg3 hgl
  have hO3r := hO3.row.rd
  rw [HN.out] at hO3r
  have hwf3 := fun x hx => (hO3.ins x hx).wf
  have HG2 : Hid (w.heap.size < w2.heap.size) := Lib.hid (Nat.lt_of_lt_of_le hgl hg2.size)
  obtain ⟨nk, hnk⟩ : ∃ nk, cs.length = nk := ⟨_, rfl⟩
  rw [hnk] at hk16 ⊢
  have HNK := Lib.hid hnk
  clear K hO2 hD2 hg2 hg3 hnk
  have K := l92Damage_any _ _ w1 w3 _ hD3 (by omega) a2 N c2 zs hO3r hO3.inn HSM.out hwf3 hz16
  clear hO3 hO3r hwf3 hD3
  go_wp2_with fail
  with_reducible refine K.mono ?_
  rintro e w4 ⟨xs, la, nl, lc, rfl, hxl, hn16, hlc, hlm, hs8, hr4, hi4, hD4, hg4⟩
  have hX4 := hX3.grown hg4 HG2.out
  have hb4 := got_belowH HB1.out HZ.out hD4.2
  have hk4 := hX4.rd
  have hw4 := hX4.wf
  rw [HNK.out] at hk4
  have HS8 := Lib.hid hs8
  clear K hX3 hX4 hD4 hg4 hs8
  go_wp2
  go_ret2
  exact ⟨xs, la, nl, lc, cs, ka, nk, kc, rfl, hxl, hn16, hlc, hlm, HS8.out, hr4, hi4, HNK, hk16, hk4, hw4, hb4⟩

end Go.Proofs.Ytajheicheefpeaa

/- What is bad has another sum: in plain words. -/
namespace Go.Proofs.Ytajheicheefpeaa
open Go.Proofs
set_option linter.unusedSimpArgs false
set_option linter.unusedVariables false

/-- Whether a sum tells that the block with an id is bad. -/
def hitC (vs : List (Int × List Int × Int)) (i : Int) (c : Int × Int) : Bool := decide (c.1 = i) && (!(getR vs i).2 || (blockSum (getR vs i).1 != c.2))
/-- Whether one of the first k sums does. -/
def someC (vs : List (Int × List Int × Int)) (i : Int) (cs : List (Int × Int)) (k : Nat) : Bool := (cs.take k).any (hitC vs i)

theorem someC_succ {vs : List (Int × List Int × Int)} {i : Int} {cs : List (Int × Int)} {k : Nat} (hk : k < cs.length) : someC vs i cs (k + 1) = (someC vs i cs k || hitC vs i (cs.getD k (0, 0))) := by
  unfold someC
  rw [List.take_succ_eq_append_getElem hk, List.any_append]
  simp [List.getD, hk]

theorem badR_parts {vs : List (Int × List Int × Int)} {cs : List (Int × Int)} (h : 0 < (badR vs cs).length) : storeV vs = true ∧ checksV cs = true ∧ badR vs cs = badI cs (cs.map (badC vs)) cs.length := by
  cases hv : storeV vs with
  | false => rw [badR_bad (.inl hv)] at h; simp at h
  | true =>
    cases hc : checksV cs with
    | false => rw [badR_bad (.inr hc)] at h; simp at h
    | true => exact ⟨rfl, rfl, badR_good hv hc⟩

theorem hit_bad {vs : List (Int × List Int × Int)} (hv : storeV vs = true) (c : Int × Int) (h : badC vs c = true) : hitC vs c.1 c = true := by
  unfold badC at h
  unfold hitC getR
  rw [hv]
  cases ha : atV vs c.1 with
  | none => simp
  | some v =>
    rw [ha] at h
    simpa using h

theorem badI_at {cs : List (Int × Int)} {bs : List Bool} {n : Nat} {x : Int} (h : x ∈ badI cs bs n) : ∃ k, k < n ∧ bs.getD k false = true ∧ (cs.getD k (0, 0)).1 = x := by
  unfold badI at h
  obtain ⟨k, hk, he⟩ := List.mem_filterMap.1 h
  refine ⟨k, List.mem_range.1 hk, ?_⟩
  cases hb : bs.getD k false with
  | false => rw [hb] at he; simp at he
  | true => rw [hb] at he; simp at he; exact ⟨rfl, he⟩

theorem bad_some {vs : List (Int × List Int × Int)} {cs : List (Int × Int)} {i : Nat} (h : i < (badR vs cs).length) : someC vs ((badR vs cs).getD i 0) cs cs.length = true := by
  obtain ⟨hv, hc, he⟩ := badR_parts (vs := vs) (cs := cs) (by omega)
  have hm : (badR vs cs).getD i 0 ∈ badI cs (cs.map (badC vs)) cs.length := by
    rw [← he]
    simp only [List.getD, List.getElem?_eq_getElem h, Option.getD_some]
    exact List.getElem_mem h
  obtain ⟨k, hk, hb, hx⟩ := badI_at hm
  have hb' : badC vs (cs.getD k (0, 0)) = true := by simpa [List.getD, List.getElem?_map, hk] using hb
  have hh := hit_bad hv _ hb'
  rw [hx] at hh
  unfold someC
  rw [List.take_length, List.any_eq_true]
  refine ⟨cs.getD k (0, 0), ?_, hh⟩
  simp only [List.getD, List.getElem?_eq_getElem hk, Option.getD_some]
  exact List.getElem_mem hk

theorem okFrom_all : ∀ (cs : List (Int × Int)) (l : Int), okFrom l cs = true → (∀ c ∈ cs, l < c.1 ∧ c.1 ≤ 99) ∧ cs.Pairwise fun x y => x.1 < y.1
  | [], _, _ => ⟨(by intro c hc; cases hc), List.Pairwise.nil⟩
  | c :: r, l, h => by
    simp only [okFrom, Bool.and_eq_true, decide_eq_true_eq] at h
    obtain ⟨⟨⟨⟨h1, h2⟩, _⟩, _⟩, h3⟩ := h
    obtain ⟨i1, i2⟩ := okFrom_all r c.1 h3
    refine ⟨fun x hx => ?_, List.Pairwise.cons (fun x hx => (i1 x hx).1) i2⟩
    rcases List.mem_cons.1 hx with rfl | hx
    · exact ⟨h1, h2⟩
    · have := i1 x hx; exact ⟨by omega, this.2⟩

theorem checksV_order {cs : List (Int × Int)} (h : checksV cs = true) : (∀ c ∈ cs, 0 < c.1 ∧ c.1 ≤ 99) ∧ cs.Pairwise fun x y => x.1 < y.1 := by
  unfold checksV at h
  rw [Bool.and_eq_true] at h
  exact okFrom_all cs 0 h.2

theorem badI_order {cs : List (Int × Int)} {bs : List Bool} (h : cs.Pairwise fun x y => x.1 < y.1) : ∀ n, n ≤ cs.length → (badI cs bs n).Pairwise (· < ·) := by
  intro n
  induction n with
  | zero => intro _; simp [badI]
  | succ n ih =>
    intro hn
    rw [badI_succ, List.pairwise_append]
    refine ⟨ih (by omega), by split <;> simp, fun x hx y hy => ?_⟩
    obtain ⟨k, hk, _, rfl⟩ := badI_at hx
    split at hy
    · simp only [List.mem_singleton] at hy
      subst hy
      have := (List.pairwise_iff_getElem.1 h) k n (by omega) (by omega) hk
      simpa [List.getD, show k < cs.length by omega, show n < cs.length by omega] using this
    · simp at hy

theorem bad_lt {vs : List (Int × List Int × Int)} {cs : List (Int × Int)} {i : Nat} (h0 : 0 < i) (h : i < (badR vs cs).length) : (badR vs cs).getD (i - 1) 0 < (badR vs cs).getD i 0 := by
  obtain ⟨hv, hc, he⟩ := badR_parts (vs := vs) (cs := cs) (by omega)
  have hp := badI_order (bs := cs.map (badC vs)) (checksV_order hc).2 cs.length (Nat.le_refl _)
  rw [← he] at hp
  have := (List.pairwise_iff_getElem.1 hp) (i - 1) i (by omega) h (by omega)
  simpa [List.getD, h, show i - 1 < (badR vs cs).length by omega] using this

theorem bad_id {vs : List (Int × List Int × Int)} {cs : List (Int × Int)} {i : Nat} (h : i < (badR vs cs).length) : 0 < (badR vs cs).getD i 0 ∧ (badR vs cs).getD i 0 ≤ 99 := by
  obtain ⟨hv, hc, he⟩ := badR_parts (vs := vs) (cs := cs) (by omega)
  have hm : (badR vs cs).getD i 0 ∈ badI cs (cs.map (badC vs)) cs.length := by
    rw [← he]
    simp only [List.getD, List.getElem?_eq_getElem h, Option.getD_some]
    exact List.getElem_mem h
  obtain ⟨k, hk, _, hx⟩ := badI_at hm
  rw [← hx]
  refine (checksV_order hc).1 _ ?_
  simp only [List.getD, List.getElem?_eq_getElem hk, Option.getD_some]
  exact List.getElem_mem hk

end Go.Proofs.Ytajheicheefpeaa

/- FnBad: its loops to the end, alone. -/
namespace Go.Proofs.Ytajheicheefpeaa
open Go.Proofs
open Go.Conc Go.RowKit
set_option linter.unusedSimpArgs false
set_option linter.unusedVariables false

noncomputable def body6 : Code := Try.f6.body.getD .skip
noncomputable def t6_8 : Code := match body6 with | .seq _ (.seq _ (.seq _ (.seq _ (.seq _ (.seq _ x))))) => x | _ => .skip

def Q6_8 (w0 : World) (b : Bool) (T : Array Value) (w' : World) : Prop := b = true ∧ BT w0 w' ∧ T.getD 2 undef = .bool true

set_option maxRecDepth 100000 in
set_option maxHeartbeats 4000000 in
theorem rest6_wp {la ka oa : Option Addr} {nl lc nk kc L oc : Nat} {xs : List HV} {cs : List (Int × Int)} {IB : List Int} {w0 : World} {s0 s1 s2 s6 s7 s8 s9 s10 s11 s12 s13 s14 s15 s16 s17 s18 s19 s20 s21 s22 s23 s24 s25 s26 s27 s28 s29 s30 s31 s32 s33 s34 s35 s36 s37 s38 s39 s40 s41 s42 s43 s44 s45 s46 s47 s48 s49 s50 s51 s52 s53 s54 s55 s56 s57 s58 s59 s60 s61 s62 s63 s64 s65 s66 s67 s68 s69 s70 s71 s72 s73 s74 s75 s76 s77 s78 s79 s80 s81 s82 s83 s84 s85 s86 s87 s88 s89 s90 s91 s92 s93 s94 s95 s96 s97 s98 s99 s100 s101 s102 s103 : Value} (hX : RdR eltH w0 la nl xs) (hXi : InH w0 xs) (hX8 : ∀ x ∈ xs, x.zs.length ≤ 8) (hnl : nl ≤ lc) (hlc : lc ≤ 9223372036854775807) (hK : RdX w0 ka nk cs) (hwc : WfX cs) (hnk : nk ≤ 16) (hO : RdI w0 oa L IB) (hIB : badR (valsH xs) cs = IB) (hL : L ≤ 1048576) :
    t6_8.wp Try.prog (QW (Q6_8 w0)) ⟨#[s0, s1, s2, .slice la nl lc, .slice ka nk kc, .slice oa L oc, s6, s7, s8, s9, s10, s11, s12, s13, s14, s15, s16, s17, s18, s19, s20, s21, s22, s23, s24, s25, s26, s27, s28, s29, s30, s31, s32, s33, s34, s35, s36, s37, s38, s39, s40, s41, s42, s43, s44, s45, s46, s47, s48, s49, s50, s51, s52, s53, s54, s55, s56, s57, s58, s59, s60, s61, s62, s63, s64, s65, s66, s67, s68, s69, s70, s71, s72, s73, s74, s75, s76, s77, s78, s79, s80, s81, s82, s83, s84, s85, s86, s87, s88, s89, s90, s91, s92, s93, s94, s95, s96, s97, s98, s99, s100, s101, s102, s103], []⟩ w0 := by
  have HX := Lib.hid hX
  have HXi := Lib.hid hXi
  have HX8 := Lib.hid hX8
  have HK := Lib.hid hK
  have HW := Lib.hid hwc
  have HO := Lib.hid hO
  have HCL := Lib.hid hK.1
  have HIL := Lib.hid hO.1
  have HLT := Lib.hid (fun i h0 h => by have := bad_lt (vs := valsH xs) (cs := cs) (i := i) h0 (by rw [hIB, hO.1]; exact h); rwa [hIB] at this : ∀ i, 0 < i → i < L → IB.getD (i - 1) 0 < IB.getD i 0)
  have HBID := Lib.hid (fun i h => by have := bad_id (vs := valsH xs) (cs := cs) (i := i) (by rw [hIB, hO.1]; exact h); rwa [hIB] at this : ∀ i, i < L → 0 < IB.getD i 0 ∧ IB.getD i 0 ≤ 99)
  have HBS := Lib.hid (fun i h => by have := bad_some (vs := valsH xs) (cs := cs) (i := i) (by rw [hIB, hO.1]; exact h); rwa [hIB, hK.1] at this : ∀ i, i < L → someC (valsH xs) (IB.getD i 0) cs nk = true)
  clear hX hXi hX8 hK hwc hO hIB
  simp only [t6_8, body6, Try.f6, Option.getD_some]
  go_wp2
  go_loopw [7] (fun i wr => ∃ k : Nat, k ≤ L ∧ i = .int .i64 k ∧ Below w0.heap.size w0 wr)
    (fun i _ => L - (intOf i).toNat)
  case atStart => exact ⟨0, Nat.zero_le _, rfl, Below.refl _ _⟩
  case round =>
    obtain ⟨i, hi, rfl, hb⟩ := hrel
    by_cases hlt : i < L
    · obtain ⟨ob, oo, rfl, id, hid, co⟩ := (HO.out.below hb).at_ hlt
      have hb99 := HBID.out i hlt
      have hsome := HBS.out i hlt
      rw [← hid] at hb99 hsome
      have HID := Lib.hid hid.symm
      have HSOME := Lib.hid hsome
      have K := implStoreGet_any la nl lc xs id wr (HX.out.below hb) (HXi.out.below hb) (fun x hx => by have := HX8.out x hx; omega) hnl hlc (WalkArith.wf_i64 (by omega))
      obtain ⟨bz, hbz⟩ : ∃ bz, (getR (valsH xs) id).1 = bz := ⟨_, rfl⟩
      obtain ⟨has, hhas⟩ : ∃ has, (getR (valsH xs) id).2 = has := ⟨_, rfl⟩
      have hbl := getR_len (valsH xs) id
      rw [hbz, hhas] at K
      rw [hbz] at hbl
      have HBZ := Lib.hid hbz
      have HHAS := Lib.hid hhas
      have hi0 : (0 : Int) ≤ (i : Int) := by omega
      have hi1 : (i : Int) < (L : Int) := by omega
      clear hid hsome hbz hhas
      go_wp2_with fail
      with_reducible refine K.mono ?_
      rintro e w2 ⟨ba, bc, rfl, hB, hb2⟩
      have hb3 := hb.trans (hb2.mono hb.size)
      have hrB := hB.rd
      obtain ⟨m, hm⟩ : ∃ m, bz.length = m := ⟨_, rfl⟩
      rw [hm] at hbl hrB ⊢
      obtain ⟨bs, hbs⟩ : ∃ bs, blockSum bz = bs := ⟨_, rfl⟩
      have HSUM := Lib.hid hbs
      have HB2 := Lib.hid hrB
      have HO2 := Lib.hid (HO.out.below hb3)
      have HK2 := Lib.hid (HK.out.below hb3)
      clear K hB hb2 hb hm hbs hrB co hi0 hi1
      go_wp2_with fail
      go_loopw [8, 11] (fun s q W => ∃ k : Nat, k ≤ nk ∧ q = .int .i64 k ∧ s = .bool (someC (valsH xs) id cs k) ∧ ∃ m, W = w2.drewN m)
        (fun _ q _ => nk - (intOf q).toNat)
      case atStart => exact ⟨0, Nat.zero_le _, rfl, rfl, 0, rfl⟩
      case round =>
        obtain ⟨k, hk, rfl, hs, q, rfl⟩ := hrel
        by_cases hkl : k < nk
        · have HK1 : RdX (w2.drewN q) ka nk cs := HK2.out
          have HO1 : RdI (w2.drewN q) (some ⟨ob, oo, none⟩) L IB := HO2.out
          have HB1 : RdI (w2.drewN q) ba m bz := HB2.out
          have hq : ∃ q', w2.drewN q = w2.drewN q' := ⟨q, rfl⟩
          generalize w2.drewN q = wq at HK1 HO1 HB1 hq ⊢
          have HQ := Lib.hid hq
          clear hq
          obtain ⟨kb, ko, rfl, hkbl, f, sm, hfm, cf, cm, hf, hm0, hm1⟩ := HK1.at_ HW.out hkl
          obtain ⟨b', off', he, x, hx, co⟩ := HO1.at_ hlt
          injection he with he
          injection he with he1 he2
          subst he1 he2
          rw [hx, HID.out] at co
          clear hx
          have K2 := fun j => still_of (implBlockSum_any ba m bc bz (wq.drewN j) HB1 (by omega))
          rw [HSUM.out] at K2
          have hk0 : (0 : Int) ≤ (k : Int) := by omega
          have hk1 : (k : Int) < (nk : Int) := by omega
          have hsucc : someC (valsH xs) id cs (k + 1) = (someC (valsH xs) id cs k || hitC (valsH xs) id (f, sm)) := by rw [someC_succ (by rw [HCL.out]; exact hkl), hfm]
          clear hfm HK1 HO1 HB1
          obtain ⟨t, ht⟩ : ∃ t, someC (valsH xs) id cs k = t := ⟨_, rfl⟩
          rw [ht] at hs hsucc
          subst hs
          clear ht
          cases t with
          | true =>
            have HS1 : Hid (someC (valsH xs) id cs (k + 1) = true) := Lib.hid (by rw [hsucc]; rfl)
            clear hsucc K2 cf cm co
            go_wp2
            go_quiet (fail)
            go_wp2
            go_roundw
            case rel => obtain ⟨q', hq'⟩ := HQ.out; exact ⟨k + 1, by omega, by go_num, by rw [HS1.out], q' + _, by rw [hq', World.drewN_drewN]⟩
            case measure => simp [intOf]; omega
          | false =>
            rw [Bool.false_or] at hsucc
            by_cases hfi : f = id
            · have q1 : (f == id) = true := by simp [hfi]
              cases has with
              | false =>
                have HS1 : Hid (someC (valsH xs) id cs (k + 1) = true) := Lib.hid (by rw [hsucc]; unfold hitC; rw [HHAS.out]; simp [hfi])
                clear hsucc K2 cm hfi
                go_wp2
                go_quiet (fail)
                go_wp2
                go_roundw
                case rel => obtain ⟨q', hq'⟩ := HQ.out; exact ⟨k + 1, by omega, by go_num, by rw [HS1.out], q' + _, by rw [hq', World.drewN_drewN]⟩
                case measure => simp [intOf]; omega
              | true =>
                obtain ⟨v, hv⟩ : ∃ v, (bs != sm) = v := ⟨_, rfl⟩
                have HS1 : Hid (someC (valsH xs) id cs (k + 1) = v) := Lib.hid (by rw [hsucc]; unfold hitC; rw [HHAS.out, HBZ.out, HSUM.out, hv]; simp [hfi])
                clear hsucc hfi
                go_wp2
                go_quiet ((go_at_call 30; exact Calls.quiet_of_same (K2 _)))
                go_wp2
                go_roundw
                case rel => obtain ⟨q', hq'⟩ := HQ.out; exact ⟨k + 1, by omega, by go_num, by rw [HS1.out], q' + _, by rw [hq', World.drewN_drewN]⟩
                case measure => simp [intOf]; omega
            · have q1 : (f == id) = false := by simp [hfi]
              have HS1 : Hid (someC (valsH xs) id cs (k + 1) = false) := Lib.hid (by rw [hsucc]; unfold hitC; simp [hfi])
              clear hsucc K2 cm hfi
              go_wp2
              go_quiet (fail)
              go_wp2
              go_roundw
              case rel => obtain ⟨q', hq'⟩ := HQ.out; exact ⟨k + 1, by omega, by go_num, by rw [HS1.out], q' + _, by rw [hq', World.drewN_drewN]⟩
              case measure => simp [intOf]; omega
        · obtain rfl : k = nk := by omega
          rw [HSOME.out] at hs
          subst hs
          have HO1 : RdI (w2.drewN q) (some ⟨ob, oo, none⟩) L IB := HO2.out
          have hb4 : Below w0.heap.size w0 (w2.drewN q) := below_drewNH hb3 q
          generalize w2.drewN q = wq at HO1 hb4 ⊢
          obtain ⟨b', off', he, x, hx, co⟩ := HO1.at_ hlt
          injection he with he
          injection he with he1 he2
          subst he1 he2
          rw [hx, HID.out] at co
          clear hx
          by_cases hi0 : i = 0
          · subst hi0
            clear HO1 co
            go_wp2
            go_quiet (fail)
            go_wp2
            go_roundw
            case rel => exact ⟨1, by omega, rfl, below_drewNH hb4 _⟩
            case measure => simp [intOf]; omega
          · have hip : 0 < i := by omega
            have hiz : (0 : Int) < (i : Int) := by omega
            obtain ⟨j, rfl⟩ : ∃ j, i = j + 1 := ⟨i - 1, by omega⟩
            obtain ⟨b', off', he, x, hx, cp⟩ := HO1.at_ (show j < L by omega)
            injection he with he
            injection he with he1 he2
            subst he1 he2
            have hxl : x < id := by have := HLT.out (j + 1) (by omega) hlt; rw [hx, ← HID.out]; simpa using this
            have hxd : decide (id ≤ x) = false := decide_eq_false (by omega)
            clear hx HO1
            have hsub : ((j + 1 : Nat) : Int) - 1 = (j : Int) := by omega
            have hj0 : (0 : Int) ≤ (j : Int) := by omega
            have hj1 : (j : Int) < (L : Int) := by omega
            go_wp2
            go_quiet (fail)
            go_wp2
            go_roundw
            case rel => exact ⟨j + 2, by omega, by go_num, below_drewNH hb4 _⟩
            case measure => simp [intOf]; omega
    · obtain rfl : i = L := by omega
      go_wp2
      exact ⟨rfl, rfl, BT.of hb, rfl⟩

end Go.Proofs.Ytajheicheefpeaa

/- The run of FnBad. -/
namespace Go.Proofs.Ytajheicheefpeaa
open Go.Proofs
open Go.Conc Go.RowKit
open Go.ConcR (KK wgBlock WgAt stA smA DC0)
open Go.Conc.Lib Go.ConcR.Gen Go.ConcN.Gen
set_option linter.unusedSimpArgs false
set_option linter.unusedVariables false

set_option maxRecDepth 100000 in
theorem okBad_true {F : Bks} {p : Nat} {W w : World} {T : Array Value} {todo : List Item} (h : BT W w) (hT : T.getD 2 undef = .bool true) :
    Ok Try.prog F p (PostL W) (G { (base 6).at ⟨T, []⟩ todo with mode := .returning } []) w := by
  refine ok_end (n := 0) (D := fun _ _ _ => False) (fun _ _ _ h => h.elim) ?_
  refine fun w₁ r₁ => ?_
  obtain ⟨d, rfl⟩ := r₁
  refine ⟨rfl, .bool true, #[], ?_, by simp, rfl, ⟨h.os, h.output, h.size, h.block⟩⟩
  have hr : (results Try.f6 T).run Try.prog (w.at d) = .ok (.bool true) (w.at d) := by rw [results_tmp rfl, hT]
  have he : (results Try.f6 T).events Try.prog (w.at d) #[] = #[] := events_results_tmp rfl _ _
  simp [G, stepG, Frame.at, base, unwind, doReturn, hr, he, seen, GStep.after, Try.func6]

set_option maxRecDepth 100000 in
set_option maxHeartbeats 3000000 in
theorem fnBad_ok {a : Option Addr} {n c : Nat} {W : World} (hr : RdC W a n) (hc : n ≤ c) :
    Ok Try.prog (fun _ => False) 1 (PostL W) (G ((base 6).at ⟨#[.slice a n c, undef, undef, undef, undef, undef, undef, undef, undef, undef, undef, undef, undef, undef, undef, undef, undef, undef, undef, undef, undef, undef, undef, undef, undef, undef, undef, undef, undef, undef, undef, undef, undef, undef, undef, undef, undef, undef, undef, undef, undef, undef, undef, undef, undef, undef, undef, undef, undef, undef, undef, undef, undef, undef, undef, undef, undef, undef, undef, undef, undef, undef, undef, undef, undef, undef, undef, undef, undef, undef, undef, undef, undef, undef, undef, undef, undef, undef, undef, undef, undef, undef, undef, undef, undef, undef, undef, undef, undef, undef, undef, undef, undef, undef, undef, undef, undef, undef, undef, undef, undef, undef, undef, undef], []⟩ [.code body6]) []) W := by
  have T : Terms AtRel (DB fun _ => False) := termsB
  have hk : (base 6).kind ≠ .early := by decide
  obtain ⟨vv, hS0, hNP, _, _⟩ := sim_make (fun _ => False) W (fun b h => h.elim)
  have hr0 : RdC vv a n := empty_rdc hS0 hr
  obtain ⟨vc, hvc⟩ : ∃ v, v = vv := ⟨_, rfl⟩
  have S : Sim (fun _ => False) vc W := by rw [hvc]; exact hS0
  have B : BT vv vc := by rw [hvc]; exact ⟨rfl, rfl, Nat.le_refl _, fun _ _ => rfl⟩
  have st : Stay W W := Stay.refl W
  have hFF : ∀ b, b < W.heap.size → ¬ (fun _ : Nat => False) b := fun b _ h => h
  have hFl : ∀ b, (fun _ : Nat => False) b → b < W.heap.size := fun b h => h.elim
  have hp : 0 < 1 := by omega
  clear hvc
  simp only [body6, Try.f6, Option.getD_some]
  refine ok_goes (Stop := Ok Try.prog _ _ (PostL W)) (fun _ _ h => h) (n := 60) ?_
  repeat (first
    | (with_reducible refine gt_seq T ?_)
    | (with_reducible refine gt_end T ?_)
    | ((with_reducible refine gt_reg T ?_); simp only [List.size_toArray, List.length_cons, List.length_nil, Nat.reduceAdd, Nat.zero_add, List.range, List.range.loop])
    | (with_reducible refine gt_skip T ?_)
    | ((with_reducible refine gt_cond T false ?_ ?_); (focus (exact rfl)); simp only [if_true, if_false, Bool.false_eq_true, ↓reduceIte, Bool.true_eq_false])
    | ((with_reducible refine gt_cond T true ?_ ?_); (focus (exact rfl)); simp only [if_true, if_false, Bool.false_eq_true, ↓reduceIte, Bool.true_eq_false]))
  refine gt_val T (.bool false) rfl rfl hk (fun w₂ r₂ => ?_) ?_
  · refine ⟨run_of fun K hK => ?_, ?_⟩
    · go_simp; exact hK
    · rw [listed_nil (by simp [go_sem, *])]; exact T.idle _
  walk_nrm
  repeat (first
    | (with_reducible refine gt_seq T ?_)
    | (with_reducible refine gt_end T ?_)
    | ((with_reducible refine gt_reg T ?_); simp only [List.size_toArray, List.length_cons, List.length_nil, Nat.reduceAdd, Nat.zero_add, List.range, List.range.loop])
    | (with_reducible refine gt_skip T ?_)
    | ((with_reducible refine gt_cond T false ?_ ?_); (focus (exact rfl)); simp only [if_true, if_false, Bool.false_eq_true, ↓reduceIte, Bool.true_eq_false])
    | ((with_reducible refine gt_cond T true ?_ ?_); (focus (exact rfl)); simp only [if_true, if_false, Bool.false_eq_true, ↓reduceIte, Bool.true_eq_false]))
  refine gt_val T (.slice a n c) rfl rfl hk (fun w₂ r₂ => ?_) ?_
  · refine ⟨run_of fun K hK => ?_, ?_⟩
    · go_simp; exact hK
    · rw [listed_nil (by simp [go_sem, *])]; exact T.idle _
  walk_nrm
  refine gt_val T (.int .i64 n) rfl rfl hk (fun w₂ r₂ => ?_) ?_
  · refine ⟨run_of fun K hK => ?_, ?_⟩
    · go_simp; exact hK
    · rw [listed_nil (by simp [go_sem, *])]; exact T.idle _
  walk_nrm
  by_cases hn : n ≤ 1048576
  rotate_left
  · have t1 : (1048576 : Int) < (n : Int) := by omega
    refine gt_val T (.bool true) rfl rfl hk (fun w₂ r₂ => ?_) ?_
    · refine ⟨run_of fun K hK => ?_, ?_⟩
      · go_simp; exact hK
      · rw [listed_nil (by simp [go_sem, *])]; exact T.idle _
    walk_nrm
    repeat (first
      | (with_reducible refine gt_seq T ?_)
      | (with_reducible refine gt_end T ?_)
      | ((with_reducible refine gt_reg T ?_); simp only [List.size_toArray, List.length_cons, List.length_nil, Nat.reduceAdd, Nat.zero_add, List.range, List.range.loop])
      | (with_reducible refine gt_skip T ?_)
      | ((with_reducible refine gt_cond T false ?_ ?_); (focus (exact rfl)); simp only [if_true, if_false, Bool.false_eq_true, ↓reduceIte, Bool.true_eq_false])
      | ((with_reducible refine gt_cond T true ?_ ?_); (focus (exact rfl)); simp only [if_true, if_false, Bool.false_eq_true, ↓reduceIte, Bool.true_eq_false]))
    refine gt_val T (.bool true) rfl rfl hk (fun w₂ r₂ => ?_) ?_
    · refine ⟨run_of fun K hK => ?_, ?_⟩
      · go_simp; exact hK
      · rw [listed_nil (by simp [go_sem, *])]; exact T.idle _
    walk_nrm
    repeat (first
      | (with_reducible refine gt_seq T ?_)
      | (with_reducible refine gt_end T ?_)
      | ((with_reducible refine gt_reg T ?_); simp only [List.size_toArray, List.length_cons, List.length_nil, Nat.reduceAdd, Nat.zero_add, List.range, List.range.loop])
      | (with_reducible refine gt_skip T ?_)
      | ((with_reducible refine gt_cond T false ?_ ?_); (focus (exact rfl)); simp only [if_true, if_false, Bool.false_eq_true, ↓reduceIte, Bool.true_eq_false])
      | ((with_reducible refine gt_cond T true ?_ ?_); (focus (exact rfl)); simp only [if_true, if_false, Bool.false_eq_true, ↓reduceIte, Bool.true_eq_false]))
    refine gt_ret T ?_
    refine Goes.stop fun w₁ r₁ => ?_
    obtain ⟨d₁, rfl⟩ := r₁
    exact ok_done Try.func6 rfl (by kernel_rfl) (bt_final hS0 (S.atD d₁) B ⟨st.size, st.pend, st.map, st.back⟩ hFF) rfl
  have t1 : ¬ (1048576 : Int) < (n : Int) := by omega
  refine gt_val T (.bool false) rfl rfl hk (fun w₂ r₂ => ?_) ?_
  · refine ⟨run_of fun K hK => ?_, ?_⟩
    · go_simp; exact hK
    · rw [listed_nil (by simp [go_sem, *])]; exact T.idle _
  walk_nrm
  repeat (first
    | (with_reducible refine gt_seq T ?_)
    | (with_reducible refine gt_end T ?_)
    | ((with_reducible refine gt_reg T ?_); simp only [List.size_toArray, List.length_cons, List.length_nil, Nat.reduceAdd, Nat.zero_add, List.range, List.range.loop])
    | (with_reducible refine gt_skip T ?_)
    | ((with_reducible refine gt_cond T false ?_ ?_); (focus (exact rfl)); simp only [if_true, if_false, Bool.false_eq_true, ↓reduceIte, Bool.true_eq_false])
    | ((with_reducible refine gt_cond T true ?_ ?_); (focus (exact rfl)); simp only [if_true, if_false, Bool.false_eq_true, ↓reduceIte, Bool.true_eq_false]))
  refine gt_val T (.slice a n c) rfl rfl hk (fun w₂ r₂ => ?_) ?_
  · refine ⟨run_of fun K hK => ?_, ?_⟩
    · go_simp; exact hK
    · rw [listed_nil (by simp [go_sem, *])]; exact T.idle _
  walk_nrm
  refine Goes.stop fun w₁ r₁ => ?_
  obtain ⟨d₁, rfl⟩ := r₁
  refine ok_callN (K := kitC) bodiesC (R := fun v w' => ∃ (xs : List HV) (la : Option Addr) (nl lc : Nat) (cs : List (Int × Int)) (ka : Option Addr) (nk kc : Nat), v = .tuple #[.slice la nl lc, .slice ka nk kc] ∧ Hid (xs.length = nl) ∧ nl ≤ 16 ∧ nl ≤ lc ∧ lc ≤ maxLen ∧ (∀ x ∈ xs, x.zs.length ≤ 8) ∧ RdR eltH w' la nl xs ∧ InH w' xs ∧ Hid (cs.length = nk) ∧ nk ≤ 16 ∧ RdX w' ka nk cs ∧ WfX cs ∧ BT vc w') (fun v w τ d ⟨xs, la, nl, lc, cs, ka, nk, kc, h1, h2, h3, h4, h5, h6, h7, h8, h9, h10, h11, h12, h13⟩ => ⟨xs, la, nl, lc, cs, ka, nk, kc, h1, h2, h3, h4, h5, h6, h7, h8, h9, h10, h11, h12, h13.tape _ _⟩) rfl rfl hk rfl Try.func28 rfl rfl (fun T w => ⟨results_tmp2 (t := 2) (u := 3) rfl _ _ _, events_results_tmp2 rfl _ _⟩) (by kernel_rfl) (by simp [Act.eval]; rfl) S.noPend (S.atD d₁) (fun τ d => ?_) (fun v' vc Wc hR S' hz' st' => ?_)
  · exact (DrawChecksBad_any a n c (onT vc τ d) (by have h := RdC.below hr0 (B.tape τ d).below; exact h) hc hn).mono fun e w' ⟨xs, la, nl, lc, cs, ka, nk, kc, h1, h2, h3, h4, h5, h6, h7, h8, h9, h10, h11, h12, h13⟩ => ⟨_, h1, xs, la, nl, lc, cs, ka, nk, kc, rfl, h2, h3, h4, h5, h6, h7, h8, h9, h10, h11, h12, (BT.of h13).untape⟩
  obtain ⟨xs, la, nl, lc, cs, ka, nk, kc, rfl, hxl, hnl, hlc, hlm, hx8, hx, hi, hcl, hnk, hkx, hwc, hb⟩ := hR
  replace S := S'
  replace st := st.trans st'.atD
  replace hFl := fun b (hb : _) => Nat.lt_of_lt_of_le (hFl b hb) hz'
  replace B := B.trans hb
  clear hb
  unfold maxLen at hlm
  have hs8 : ∀ x ∈ xs, x.zs.length ≤ 4611686018427387904 := fun x hx => by have := hx8 x hx; omega
  obtain ⟨IB, hIB⟩ : ∃ IB, badR (valsH xs) cs = IB := ⟨_, rfl⟩
  have hL := badR_len (vs := valsH xs) (cs := cs) (n := nk) (by omega) hcl.out
  rw [hIB] at hL
  obtain ⟨L, hIL⟩ : ∃ L, IB.length = L := ⟨_, rfl⟩
  rw [hIL] at hL
  replace hIB := Lib.hid hIB
  replace hIL := Lib.hid hIL
  replace hx8 := Lib.hid hx8
  clear S' st' hz'
  refine ok_goes (Stop := Ok Try.prog _ _ (PostL W)) (fun _ _ h => h) (n := 60) ?_
  walk_nrm
  refine gt_val T (.tuple #[.slice la nl lc, .slice ka nk kc]) rfl rfl hk (fun w₂ r₂ => ?_) ?_
  · refine ⟨run_of fun K hK => ?_, ?_⟩
    · go_simp; exact hK
    · rw [listed_nil (by simp [go_sem, *])]; exact T.idle _
  walk_nrm
  refine gt_val T (.slice la nl lc) rfl rfl hk (fun w₂ r₂ => ?_) ?_
  · refine ⟨run_of fun K hK => ?_, ?_⟩
    · go_simp; exact hK
    · rw [listed_nil (by simp [go_sem, *])]; exact T.idle _
  walk_nrm
  refine gt_val T (.slice ka nk kc) rfl rfl hk (fun w₂ r₂ => ?_) ?_
  · refine ⟨run_of fun K hK => ?_, ?_⟩
    · go_simp; exact hK
    · rw [listed_nil (by simp [go_sem, *])]; exact T.idle _
  walk_nrm
  refine gt_val T (.slice la nl lc) rfl rfl hk (fun w₂ r₂ => ?_) ?_
  · refine ⟨run_of fun K hK => ?_, ?_⟩
    · go_simp; exact hK
    · rw [listed_nil (by simp [go_sem, *])]; exact T.idle _
  walk_nrm
  refine gt_val T (.slice ka nk kc) rfl rfl hk (fun w₂ r₂ => ?_) ?_
  · refine ⟨run_of fun K hK => ?_, ?_⟩
    · go_simp; exact hK
    · rw [listed_nil (by simp [go_sem, *])]; exact T.idle _
  walk_nrm
  repeat (first
    | (with_reducible refine gt_seq T ?_)
    | (with_reducible refine gt_end T ?_)
    | ((with_reducible refine gt_reg T ?_); simp only [List.size_toArray, List.length_cons, List.length_nil, Nat.reduceAdd, Nat.zero_add, List.range, List.range.loop])
    | (with_reducible refine gt_skip T ?_)
    | ((with_reducible refine gt_cond T false ?_ ?_); (focus (exact rfl)); simp only [if_true, if_false, Bool.false_eq_true, ↓reduceIte, Bool.true_eq_false])
    | ((with_reducible refine gt_cond T true ?_ ?_); (focus (exact rfl)); simp only [if_true, if_false, Bool.false_eq_true, ↓reduceIte, Bool.true_eq_false]))
  refine gt_val T (.slice la nl lc) rfl rfl hk (fun w₂ r₂ => ?_) ?_
  · refine ⟨run_of fun K hK => ?_, ?_⟩
    · go_simp; exact hK
    · rw [listed_nil (by simp [go_sem, *])]; exact T.idle _
  walk_nrm
  refine gt_val T (.slice ka nk kc) rfl rfl hk (fun w₂ r₂ => ?_) ?_
  · refine ⟨run_of fun K hK => ?_, ?_⟩
    · go_simp; exact hK
    · rw [listed_nil (by simp [go_sem, *])]; exact T.idle _
  walk_nrm
  refine Goes.stop fun w₁ r₁ => ?_
  obtain ⟨d₁, rfl⟩ := r₁
  refine ok_checksBad (w0 := vc) (la := la) (ka := ka) (nl := nl) (lc := lc) (n := nk) (cc := kc) (xs := xs) (chks := cs) rfl rfl hk rfl (by simp [Act.eval]) hp (by omega) (S.atD d₁) hFl hx hi hs8 hlc hlm hkx hwc (by omega) ?_
  intro F' p' vc Wc aG cG Sd hFd hbd hO hpd hpd2 hFFd std
  rw [hIB.out] at hO ⊢
  rw [hIL.out]
  have hG : RdI vc aG L IB := by have h := hO.rd; rw [hIL.out] at h; exact h
  have hb := BT.of hbd
  replace hFF := fun b (hb : b < W.heap.size) (h : F' b) => hFF b hb ((hFFd b (Nat.lt_of_lt_of_le hb st.size)).1 h)
  replace S := Sd
  replace hFl := hFd
  replace st := st.trans std.atD
  replace B := B.trans hb
  replace hx := hx.bt hb
  replace hi := hi.bt hb
  replace hkx := hkx.bt hb
  clear hb
  clear hp hO Sd hFd std hFFd hbd
  have TW : Terms AtRel (DB F') := termsB
  refine ok_goes (Stop := Ok Try.prog _ _ (PostL W)) (fun _ _ h => h) (n := 60) ?_
  walk_nrm
  refine gt_val TW (.slice aG L cG) rfl rfl hk (fun w₂ r₂ => ?_) ?_
  · refine ⟨run_of fun K hK => ?_, ?_⟩
    · go_simp; exact hK
    · rw [listed_nil (by simp [go_sem, *])]; exact TW.idle _
  walk_nrm
  repeat (first
    | (with_reducible refine gt_seq TW ?_)
    | (with_reducible refine gt_end TW ?_)
    | ((with_reducible refine gt_reg TW ?_); simp only [List.size_toArray, List.length_cons, List.length_nil, Nat.reduceAdd, Nat.zero_add, List.range, List.range.loop])
    | (with_reducible refine gt_skip TW ?_)
    | ((with_reducible refine gt_cond TW false ?_ ?_); (focus (exact rfl)); simp only [if_true, if_false, Bool.false_eq_true, ↓reduceIte, Bool.true_eq_false])
    | ((with_reducible refine gt_cond TW true ?_ ?_); (focus (exact rfl)); simp only [if_true, if_false, Bool.false_eq_true, ↓reduceIte, Bool.true_eq_false]))
  refine gt_val TW (.slice la nl lc) rfl rfl hk (fun w₂ r₂ => ?_) ?_
  · refine ⟨run_of fun K hK => ?_, ?_⟩
    · go_simp; exact hK
    · rw [listed_nil (by simp [go_sem, *])]; exact TW.idle _
  walk_nrm
  refine gt_val TW (.slice ka nk kc) rfl rfl hk (fun w₂ r₂ => ?_) ?_
  · refine ⟨run_of fun K hK => ?_, ?_⟩
    · go_simp; exact hK
    · rw [listed_nil (by simp [go_sem, *])]; exact TW.idle _
  walk_nrm
  refine Goes.stop fun w₁ r₁ => ?_
  obtain ⟨d₁, rfl⟩ := r₁
  refine ok_call (K := kitC) bodiesC (R := fun v w' => ∃ (a' : Option Addr) (c' : Nat), v = .slice a' L c' ∧ RdI w' a' L IB ∧ BT vc w') (fun v w τ d ⟨a, c, h1, h2, h3⟩ => ⟨a, c, h1, h2, h3.tape _ _⟩) rfl rfl hk rfl Try.func18 rfl rfl rfl (by kernel_rfl) (by simp [Act.eval]; rfl) S.noPend (S.atD d₁) (fun τ d => ?_) (fun v' vc Wc hR S' hz' st' => ?_)
  · exact (by have h := specChecksBad_any la ka nl lc nk kc xs cs (onT vc τ d) (hx.bt (B0 _ _)) (hi.bt (B0 _ _)) hs8 (by omega) (hkx.bt (B0 _ _)) hwc (by omega); rw [hIB.out] at h; exact h : Calls Try.prog _ _ _ (RetIs (onT vc τ d) IB)).mono fun e w' ⟨a', c', h1, h2, h3⟩ => ⟨_, h1, a', c', by rw [hIL.out], by have h := h2.rd; rw [hIL.out] at h; exact h, (BT.of h3).untape⟩
  obtain ⟨aW, cW, rfl, hW, hb⟩ := hR
  replace S := S'
  replace st := st.trans st'.atD
  replace hFl := fun b (hb : _) => Nat.lt_of_lt_of_le (hFl b hb) hz'
  replace B := B.trans hb
  replace hx := hx.bt hb
  replace hi := hi.bt hb
  replace hkx := hkx.bt hb
  replace hG := hG.bt hb
  clear hb
  clear S' st' hz'
  refine ok_goes (Stop := Ok Try.prog _ _ (PostL W)) (fun _ _ h => h) (n := 60) ?_
  walk_nrm
  refine gt_val TW (.slice aW L cW) rfl rfl hk (fun w₂ r₂ => ?_) ?_
  · refine ⟨run_of fun K hK => ?_, ?_⟩
    · go_simp; exact hK
    · rw [listed_nil (by simp [go_sem, *])]; exact TW.idle _
  walk_nrm
  repeat (first
    | (with_reducible refine gt_seq TW ?_)
    | (with_reducible refine gt_end TW ?_)
    | ((with_reducible refine gt_reg TW ?_); simp only [List.size_toArray, List.length_cons, List.length_nil, Nat.reduceAdd, Nat.zero_add, List.range, List.range.loop])
    | (with_reducible refine gt_skip TW ?_)
    | ((with_reducible refine gt_cond TW false ?_ ?_); (focus (exact rfl)); simp only [if_true, if_false, Bool.false_eq_true, ↓reduceIte, Bool.true_eq_false])
    | ((with_reducible refine gt_cond TW true ?_ ?_); (focus (exact rfl)); simp only [if_true, if_false, Bool.false_eq_true, ↓reduceIte, Bool.true_eq_false]))
  refine gt_val TW (.slice aG L cG) rfl rfl hk (fun w₂ r₂ => ?_) ?_
  · refine ⟨run_of fun K hK => ?_, ?_⟩
    · go_simp; exact hK
    · rw [listed_nil (by simp [go_sem, *])]; exact TW.idle _
  walk_nrm
  refine gt_val TW (.slice aW L cW) rfl rfl hk (fun w₂ r₂ => ?_) ?_
  · refine ⟨run_of fun K hK => ?_, ?_⟩
    · go_simp; exact hK
    · rw [listed_nil (by simp [go_sem, *])]; exact TW.idle _
  walk_nrm
  refine Goes.stop fun w₁ r₁ => ?_
  obtain ⟨d₁, rfl⟩ := r₁
  refine ok_call (K := kitC) bodiesC (R := fun v w' => v = .bool true ∧ BT vc w') (fun v w τ d h => ⟨h.1, h.2.tape _ _⟩) rfl rfl hk rfl Try.func27 rfl rfl rfl (by kernel_rfl) (by simp [Act.eval]; rfl) S.noPend (S.atD d₁) (fun τ d => ?_) (fun v' vc Wc hR S' hz' st' => ?_)
  · exact (by have h := sameInts_any aG aW L L cG cW IB IB (onT vc τ d) (hG.bt (B0 _ _)) (hW.bt (B0 _ _)) (by omega) (by omega); rw [show eqI IB IB = true by simp [eqI]] at h; exact h : Calls Try.prog _ _ _ (RetQ (onT vc τ d) (.bool true))).mono fun e w' h => ⟨_, h.1, rfl, by obtain ⟨m, hm⟩ := h.2; subst hm; exact ⟨rfl, rfl, Nat.le_refl _, fun _ _ => rfl⟩⟩
  obtain ⟨rfl, hb⟩ := hR
  replace S := S'
  replace st := st.trans st'.atD
  replace hFl := fun b (hb : _) => Nat.lt_of_lt_of_le (hFl b hb) hz'
  replace B := B.trans hb
  replace hx := hx.bt hb
  replace hi := hi.bt hb
  replace hkx := hkx.bt hb
  replace hG := hG.bt hb
  replace hW := hW.bt hb
  clear hb
  clear S' st' hz'
  refine ok_goes (Stop := Ok Try.prog _ _ (PostL W)) (fun _ _ h => h) (n := 60) ?_
  walk_nrm
  refine gt_val TW (.bool false) rfl rfl hk (fun w₂ r₂ => ?_) ?_
  · refine ⟨run_of fun K hK => ?_, ?_⟩
    · go_simp; exact hK
    · rw [listed_nil (by simp [go_sem, *])]; exact TW.idle _
  walk_nrm
  refine gt_val TW (.bool false) rfl rfl hk (fun w₂ r₂ => ?_) ?_
  · refine ⟨run_of fun K hK => ?_, ?_⟩
    · go_simp; exact hK
    · rw [listed_nil (by simp [go_sem, *])]; exact TW.idle _
  walk_nrm
  refine gt_val TW (.slice aW L cW) rfl rfl hk (fun w₂ r₂ => ?_) ?_
  · refine ⟨run_of fun K hK => ?_, ?_⟩
    · go_simp; exact hK
    · rw [listed_nil (by simp [go_sem, *])]; exact TW.idle _
  walk_nrm
  refine gt_val TW (.int .i64 L) rfl rfl hk (fun w₂ r₂ => ?_) ?_
  · refine ⟨run_of fun K hK => ?_, ?_⟩
    · go_simp; exact hK
    · rw [listed_nil (by simp [go_sem, *])]; exact TW.idle _
  walk_nrm
  by_cases hz : L = 0
  · have t3 : ((L : Int) == 0) = true := by simp [hz]
    clear hz
    refine gt_val TW (.bool true) rfl rfl hk (fun w₂ r₂ => ?_) ?_
    · refine ⟨run_of fun K hK => ?_, ?_⟩
      · go_simp; exact hK
      · rw [listed_nil (by simp [go_sem, *])]; exact TW.idle _
    walk_nrm
    refine gt_val TW (.bool true) rfl rfl hk (fun w₂ r₂ => ?_) ?_
    · refine ⟨run_of fun K hK => ?_, ?_⟩
      · go_simp; exact hK
      · rw [listed_nil (by simp [go_sem, *])]; exact TW.idle _
    walk_nrm
    repeat (first
      | (with_reducible refine gt_seq TW ?_)
      | (with_reducible refine gt_end TW ?_)
      | ((with_reducible refine gt_reg TW ?_); simp only [List.size_toArray, List.length_cons, List.length_nil, Nat.reduceAdd, Nat.zero_add, List.range, List.range.loop])
      | (with_reducible refine gt_skip TW ?_)
      | ((with_reducible refine gt_cond TW false ?_ ?_); (focus (exact rfl)); simp only [if_true, if_false, Bool.false_eq_true, ↓reduceIte, Bool.true_eq_false])
      | ((with_reducible refine gt_cond TW true ?_ ?_); (focus (exact rfl)); simp only [if_true, if_false, Bool.false_eq_true, ↓reduceIte, Bool.true_eq_false]))
    refine gt_val TW (.slice aG L cG) rfl rfl hk (fun w₂ r₂ => ?_) ?_
    · refine ⟨run_of fun K hK => ?_, ?_⟩
      · go_simp; exact hK
      · rw [listed_nil (by simp [go_sem, *])]; exact TW.idle _
    walk_nrm
    refine gt_val TW (.slice aW L cW) rfl rfl hk (fun w₂ r₂ => ?_) ?_
    · refine ⟨run_of fun K hK => ?_, ?_⟩
      · go_simp; exact hK
      · rw [listed_nil (by simp [go_sem, *])]; exact TW.idle _
    walk_nrm
    refine Goes.stop fun w₁ r₁ => ?_
    obtain ⟨d₁, rfl⟩ := r₁
    refine ok_call (K := kitC) bodiesC (R := fun v w' => v = .bool true ∧ BT vc w') (fun v w τ d h => ⟨h.1, h.2.tape _ _⟩) rfl rfl hk rfl Try.func27 rfl rfl rfl (by kernel_rfl) (by simp [Act.eval]; rfl) S.noPend (S.atD d₁) (fun τ d => ?_) (fun v' vc Wc hR S' hz' st' => ?_)
    · exact (by have h := sameInts_any aG aW L L cG cW IB IB (onT vc τ d) (hG.bt (B0 _ _)) (hW.bt (B0 _ _)) (by omega) (by omega); rw [show eqI IB IB = true by simp [eqI]] at h; exact h : Calls Try.prog _ _ _ (RetQ (onT vc τ d) (.bool true))).mono fun e w' h => ⟨_, h.1, rfl, by obtain ⟨m, hm⟩ := h.2; subst hm; exact ⟨rfl, rfl, Nat.le_refl _, fun _ _ => rfl⟩⟩
    obtain ⟨rfl, hb⟩ := hR
    replace S := S'
    replace st := st.trans st'.atD
    replace hFl := fun b (hb : _) => Nat.lt_of_lt_of_le (hFl b hb) hz'
    replace B := B.trans hb
    replace hx := hx.bt hb
    replace hi := hi.bt hb
    replace hkx := hkx.bt hb
    replace hG := hG.bt hb
    replace hW := hW.bt hb
    clear hb
    clear S' st' hz'
    refine ok_goes (Stop := Ok Try.prog _ _ (PostL W)) (fun _ _ h => h) (n := 60) ?_
    walk_nrm
    refine gt_val TW (.bool true) rfl rfl hk (fun w₂ r₂ => ?_) ?_
    · refine ⟨run_of fun K hK => ?_, ?_⟩
      · go_simp; exact hK
      · rw [listed_nil (by simp [go_sem, *])]; exact TW.idle _
    walk_nrm
    repeat (first
      | (with_reducible refine gt_seq TW ?_)
      | (with_reducible refine gt_end TW ?_)
      | ((with_reducible refine gt_reg TW ?_); simp only [List.size_toArray, List.length_cons, List.length_nil, Nat.reduceAdd, Nat.zero_add, List.range, List.range.loop])
      | (with_reducible refine gt_skip TW ?_)
      | ((with_reducible refine gt_cond TW false ?_ ?_); (focus (exact rfl)); simp only [if_true, if_false, Bool.false_eq_true, ↓reduceIte, Bool.true_eq_false])
      | ((with_reducible refine gt_cond TW true ?_ ?_); (focus (exact rfl)); simp only [if_true, if_false, Bool.false_eq_true, ↓reduceIte, Bool.true_eq_false]))
    refine gt_ret TW ?_
    refine Goes.stop fun w₁ r₁ => ?_
    obtain ⟨d₁, rfl⟩ := r₁
    exact ok_done Try.func6 rfl (by kernel_rfl) (bt_final hS0 (S.atD d₁) B ⟨st.size, st.pend, st.map, st.back⟩ hFF) rfl
  have t3 : ((L : Int) == 0) = false := by simp [hz]
  refine gt_val TW (.bool false) rfl rfl hk (fun w₂ r₂ => ?_) ?_
  · refine ⟨run_of fun K hK => ?_, ?_⟩
    · go_simp; exact hK
    · rw [listed_nil (by simp [go_sem, *])]; exact TW.idle _
  walk_nrm
  refine gt_val TW (.bool false) rfl rfl hk (fun w₂ r₂ => ?_) ?_
  · refine ⟨run_of fun K hK => ?_, ?_⟩
    · go_simp; exact hK
    · rw [listed_nil (by simp [go_sem, *])]; exact TW.idle _
  walk_nrm
  refine gt_end TW ?_
  refine gt_cond TW false ?_ ?_
  focus (exact rfl)
  simp only [if_true, if_false, Bool.false_eq_true, ↓reduceIte, Bool.true_eq_false]
  refine gt_skip TW ?_
  refine Goes.stop fun w₁ r₁ => ?_
  obtain ⟨d₁, rfl⟩ := r₁
  refine ok_code (K := kitC) bodiesC (ret := true) (Q := Q6_8 vc) (fun b T w τ d h => ⟨h.1, h.2.1.tape _ _, h.2.2⟩) (by kernel_rfl) ⟨_, Try.func6⟩ S.noPend (S.atD d₁) (fun τ d => wp_mono (rest6_wp (hx.bt (B0 τ d)) (hi.bt (B0 τ d)) hx8.out hlc hlm (hkx.bt (B0 τ d)) hwc hnk (hG.bt (B0 τ d)) hIB.out hL) fun e a w hq => qw_mono (fun b T w h => ⟨h.1, h.2.1.untape, h.2.2⟩) hq) (fun T' w0' w' hq _ _ _ _ => by cases hq.1) (fun T' todo w0' w' hq hS' _ hz' st' => ?_)
  exact okBad_true (bt_final hS0 hS' (B.trans hq.2.1) (st.trans st'.atD) hFF) hq.2.2

theorem enter6 (v : Value) : Frame.enter Try.prog 6 #[v] .normal = (base 6).at ⟨#[v, undef, undef, undef, undef, undef, undef, undef, undef, undef, undef, undef, undef, undef, undef, undef, undef, undef, undef, undef, undef, undef, undef, undef, undef, undef, undef, undef, undef, undef, undef, undef, undef, undef, undef, undef, undef, undef, undef, undef, undef, undef, undef, undef, undef, undef, undef, undef, undef, undef, undef, undef, undef, undef, undef, undef, undef, undef, undef, undef, undef, undef, undef, undef, undef, undef, undef, undef, undef, undef, undef, undef, undef, undef, undef, undef, undef, undef, undef, undef, undef, undef, undef, undef, undef, undef, undef, undef, undef, undef, undef, undef, undef, undef, undef, undef, undef, undef, undef, undef, undef, undef, undef, undef], []⟩ [.code body6] := by
  simp [Frame.enter, Try.func6, Try.f6, body6, base, Frame.at, Array.replicate_succ]

theorem fnBad_ends {a : Option Addr} {n c : Nat} {W : World} (hr : RdC W a n) (hc : n ≤ c) : Ends Try.prog (PostL W) (solo (G (Frame.enter Try.prog 6 #[.slice a n c] .normal) []) W) #[] := by
  rw [solo_eq_crowd, enter6]
  exact fnBad_ok hr hc #[_] none #[] (fun _ => 0) rfl rfl (leavers_one _ _) (trc_nil _)

end Go.Proofs.Ytajheicheefpeaa
