import Derived.Test.YtajheicheefpeaaM1
import Derived.BigQuiet
import Derived.Deep.QuietTactic
import Derived.Outline
import Derived.Test.YtajheicheefpeaaM5
import Derived.Maps.AppendAt
import Derived.Test.YtajheicheefpeaaM8
import Derived.StillTailTactics
/- Contracts of the reader of a code: l6Open makes it, pick draws a number from 0 to n-1. -/
namespace Go.Proofs.Ytajheicheefpeaa
open Go.RowKit

/-- The first n cells from a on are bytes, in blocks below B. -/
def RdB (w : World) (B : Nat) (a : Option Addr) (n : Nat) : Prop :=
  ∀ i, i < n → ∃ b off, a = some ⟨b, off, none⟩ ∧ b < B ∧ ∀ j, j < n → ∃ y : Int, 0 ≤ y ∧ y ≤ 255 ∧ w.cell? ⟨b, off + j, none⟩ = some (.int .u8 y)

/-- Block g is a reader that has read p numbers; its bytes lie below B. -/
def Rdr (w : World) (B g : Nat) (p : Int) : Prop :=
  B ≤ g ∧ 0 ≤ p ∧ ∃ a n c, n ≤ 2000 ∧ w.heap[g]? = some (.cells #[.slice a n c, .int .i64 p] 93 (0, 0)) ∧ RdB w B a n

/-- A number below n was drawn; only the reader has changed. -/
def Picked (w : World) (B g : Nat) (p n : Int) (e : Ending) (w' : World) : Prop :=
  ∃ x : Int, e = .returned (.int .i64 x) ∧ 0 ≤ x ∧ (1 ≤ n → x < n) ∧ Rdr w' B g (p + 1) ∧ w.grownBy w' (some g)

theorem grownBy_drewN {w w' : World} {row : Option Nat} (h : w.grownBy w' row) (k : Nat) : w.grownBy (w'.drewN k) row := ⟨h.os, h.tape, h.output, h.size, h.block⟩
theorem Rdr.drewN {w : World} {B g : Nat} {p : Int} (h : Rdr w B g p) (k : Nat) : Rdr (w.drewN k) B g p := h

theorem Rdr.set {w : World} {B g : Nat} {p : Int} (h : Rdr w B g p) (q : Int) (hq : 0 ≤ q) : Rdr (w.setCell ⟨g, 1, none⟩ (.int .i64 q)) B g q ∧ w.grownBy (w.setCell ⟨g, 1, none⟩ (.int .i64 q)) (some g) := by
  obtain ⟨hB, h0, a, n, c, hn, hh, hb⟩ := h
  refine ⟨⟨hB, hq, a, n, c, hn, ?_, ?_⟩, ⟨rfl, rfl, rfl, by simp [World.setCell], fun k _ hk => Below.heap_setCell _ _ _ _ (fun e => hk (by rw [e]))⟩⟩
  · exact heap_setCell_same w g 1 _ _ _ hh
  · intro i hi
    obtain ⟨b, off, rfl, hlt, hc⟩ := hb i hi
    refine ⟨b, off, rfl, hlt, fun j hj => ?_⟩
    obtain ⟨y, h1, h2, h3⟩ := hc j hj
    exact ⟨y, h1, h2, (World.cell?_setCell_other w ⟨g, 1, none⟩ ⟨b, off + j, none⟩ _ (fun e => by injection e; omega)).trans h3⟩

theorem ofInt_i64 (a : Nat) (ha : a < 9223372036854775808) : (BitVec.ofInt 64 (a : Int)).toNat = a := by
  rw [BitVec.ofInt_natCast, BitVec.toNat_ofNat]; exact Nat.mod_eq_of_lt (by omega)

theorem xor_bd (x : Int) (h0 : 0 ≤ x) (h1 : x < 9223372036854775808) : 0 ≤ bits .xor .i64 x (x / 64) := by
  obtain ⟨a, rfl⟩ := Int.eq_ofNat_of_zero_le h0
  have hx : a ^^^ (a / 64) < 2 ^ 63 := Nat.xor_lt_two_pow (by omega) (by omega)
  have : bits .xor .i64 (a : Int) ((a : Int) / 64) = ((a ^^^ (a / 64) : Nat) : Int) := by
    rw [show (a : Int) / 64 = ((a / 64 : Nat) : Int) by omega]
    show IntKind.i64.wrap ((BitVec.ofInt 64 (a : Int) ^^^ BitVec.ofInt 64 ((a / 64 : Nat) : Int)).toNat : Int) = _
    rw [BitVec.toNat_xor, ofInt_i64 a (by omega), ofInt_i64 (a / 64) (by omega), IntKind.wrap_i64]
    omega
  rw [this]
  omega

set_option maxHeartbeats 800000 in
theorem pick_any (B g : Nat) (p n : Int) (w : World) (hr : Rdr w B g p) (hp : p ≤ 1099511627776) :
    Calls Try.prog 60 #[.pointer (some ⟨g, 0, none⟩), .int .i64 n] w (Picked w B g p n) := by
  have hset := hr.set (p + 1) (by have := hr.2.1; omega)
  obtain ⟨hB, h0, a, m, c, hm, hh, hb⟩ := hr
  have c0 : w.cell? ⟨g, 0, none⟩ = some (.slice a m c) := by rw [cell_of_row w g 0 _ _ (0, 0) hh]; rfl
  have c1 : w.cell? ⟨g, 1, none⟩ = some (.int .i64 p) := by rw [cell_of_row w g 1 _ _ (0, 0) hh]; rfl
  have f1 : w.frozen? ⟨g, 1, none⟩ = false := frozen_of_row w g 1 _ _ hh
  clear hh
  have HS := Lib.hid hset
  clear hset
  by_cases hn : n < 1
  · go_enter Try.func60, Try.ntmps60
    go_wp2
    go_ret
    exact ⟨0, rfl, by omega, fun h => by omega, HS.out⟩
  · by_cases hm0 : m = 0
    · subst hm0
      go_enter Try.func60, Try.ntmps60
      go_wp2
      go_ret
      exact ⟨0, rfl, by omega, fun h => by omega, HS.out⟩
    · have hmz : ((m : Int) == 0) = false := by simp; omega
      obtain ⟨b, off, rfl, hlt, hc⟩ := hb 0 (by omega)
      have hbg : ¬ b = g := by omega
      by_cases hpm : p < m
      · obtain ⟨y, hy0, hy1, hcell⟩ := hc p.toNat (by omega)
        go_enter Try.func60, Try.ntmps60
        go_wp2
        go_ret
        exact ⟨_, rfl, Int.emod_nonneg _ (by omega), fun _ => Int.emod_lt_of_pos _ (by omega), HS.out⟩
      · obtain ⟨q, rfl⟩ := Int.eq_ofNat_of_zero_le h0
        obtain ⟨i1, hi1⟩ : ∃ i1, i1 = q % m := ⟨_, rfl⟩
        obtain ⟨i2, hi2⟩ : ∃ i2, i2 = (q * 7 + 3) % m := ⟨_, rfl⟩
        obtain ⟨i3, hi3⟩ : ∃ i3, i3 = q / m := ⟨_, rfl⟩
        have l1 : i1 < m := by rw [hi1]; exact Nat.mod_lt _ (by omega)
        have l2 : i2 < m := by rw [hi2]; exact Nat.mod_lt _ (by omega)
        have l3 : i3 ≤ q := by rw [hi3]; exact Nat.div_le_self _ _
        obtain ⟨y, hy0, hy1, hcell⟩ := hc i1 l1
        obtain ⟨z, hz0, hz1, hcell'⟩ := hc i2 l2
        have E1 : Hid ((q : Int).tmod m = (i1 : Int)) := Lib.hid (by rw [hi1, Int.tmod_eq_emod_of_nonneg (by omega)]; simp)
        have E2 : Hid (((q : Int) * 7 + 3).tmod m = (i2 : Int)) := Lib.hid (by rw [hi2, Int.tmod_eq_emod_of_nonneg (by omega)]; simp)
        have E3 : Hid ((q : Int).tdiv m = (i3 : Int)) := Lib.hid (by rw [hi3, Int.tdiv_eq_ediv_of_nonneg (by omega)]; simp)
        clear hi1 hi2 hi3
        have j1 : (0 : Int) ≤ (i1 : Int) := by omega
        have j1' : (i1 : Int) < (m : Int) := by omega
        have j2 : (0 : Int) ≤ (i2 : Int) := by omega
        have j2' : (i2 : Int) < (m : Int) := by omega
        go_enter Try.func60, Try.ntmps60
        go_wp2
        have e1 := E1.out
        have e2 := E2.out
        have e3 := E3.out
        go_quiet (fail)
        clear e1 e2 e3
        go_wp2
        go_ret
        have hx := xor_bd (y * 131 + z * 1117 + (q : Int) * 29 + (i3 : Int) * 53) (by omega) (by omega)
        rw [Int.tmod_eq_emod_of_nonneg hx]
        exact ⟨_, rfl, Int.emod_nonneg _ (by omega), fun _ => Int.emod_lt_of_pos _ (by omega), HS.out.1.drewN _, grownBy_drewN HS.out.2 _⟩


/-- A reader was made, in a new block. -/
def Opened (w : World) (e : Ending) (w' : World) : Prop :=
  e = .returned (.pointer (some ⟨w.heap.size, 0, none⟩)) ∧ Rdr w' w.heap.size w.heap.size 0 ∧ Below w.heap.size w w' ∧ w'.heap.size = w.heap.size + 1

theorem Rdr.new {w : World} {a : Option Addr} {n : Nat} (h : RdC w a n) (hn : n ≤ 2000) (c : Nat) :
    Rdr (w.alloc (.cells #[.slice a n c, .int .i64 0] 93)) w.heap.size w.heap.size 0 := by
  refine ⟨Nat.le_refl _, by omega, a, n, c, hn, heap_alloc_new w _, ?_⟩
  intro i hi
  obtain ⟨b, off, rfl, hlt, hc⟩ := h i hi
  refine ⟨b, off, rfl, hlt, fun j hj => ?_⟩
  obtain ⟨y, h1, h2, h3⟩ := hc j hj
  exact ⟨y, h1, h2, (World.cell?_alloc_lt w _ ⟨b, off + j, none⟩ hlt).trans h3⟩

set_option maxHeartbeats 400000 in
theorem l6Open_any (a : Option Addr) (n c : Nat) (w : World) (h : RdC w a n) (hc : n ≤ c) (hn : n ≤ 1048576) :
    Calls Try.prog 44 #[.slice a n c] w (Opened w) := by
  by_cases hm : n ≤ 2000
  · go_enter Try.func44, Try.ntmps44
    go_wp2
    go_ret
    exact ⟨rfl, Rdr.new h hm c, (Below.refl _ _).alloc (Nat.le_refl _) _, by simp⟩
  · have hcc : 2000 ≤ c := by omega
    obtain ⟨b, off, rfl, hlt, hcell⟩ := h 0 (by omega)
    go_enter Try.func44, Try.ntmps44
    go_wp2
    go_ret
    exact ⟨rfl, Rdr.new (h.less (by omega)) (by omega) c, (Below.refl _ _).alloc (Nat.le_refl _) _, by simp⟩

end Go.Proofs.Ytajheicheefpeaa

/- A draw in progress: the reader has gone on; only it, and what is new, has changed. -/
namespace Go.Proofs.Ytajheicheefpeaa
open Go.RowKit
set_option linter.unusedVariables false

/-- The state of a draw: the reader has gone on by at most lim numbers; only it, and what is new, has changed. -/
def Drawn (w wr : World) (B g : Nat) (lim : Int) : Prop := (∃ q : Int, q ≤ lim ∧ Rdr wr B g q) ∧ w.grownBy wr (some g)

theorem Rdr.lt {w : World} {B g : Nat} {p : Int} (h : Rdr w B g p) : g < w.heap.size := by
  obtain ⟨_, _, a, n, c, _, hh, _⟩ := h
  exact (Array.getElem?_eq_some_iff.1 hh).1

theorem grownBy_trans {a b c : World} {row : Option Nat} (h : a.grownBy b row) (k : b.grownBy c row) : a.grownBy c row :=
  ⟨k.os.trans h.os, k.tape.trans h.tape, k.output.trans h.output, Nat.le_trans h.size k.size, fun i hi hn => (k.block i (Nat.lt_of_lt_of_le hi h.size) hn).trans (h.block i hi hn)⟩

theorem grownBy_of_below {a b : World} (h : Below a.heap.size a b) (row : Option Nat) : a.grownBy b row := ⟨h.os, h.tape, h.output, h.size, fun i hi _ => h.block i hi⟩

theorem Rdr.grown {w w' : World} {B g : Nat} {p : Int} (h : Rdr w B g p) {row : Option Nat} (hg : w.grownBy w' row) (hr : ∀ r, row = some r → g < r) : Rdr w' B g p := by
  have hlt := h.lt
  obtain ⟨hB, h0, a, n, c, hn, hh, hb⟩ := h
  refine ⟨hB, h0, a, n, c, hn, (hg.block g hlt (fun e => by have := hr g e.symm; omega)).trans hh, ?_⟩
  intro i hi
  obtain ⟨b, off, rfl, hlt', hc⟩ := hb i hi
  refine ⟨b, off, rfl, hlt', fun j hj => ?_⟩
  obtain ⟨y, h1, h2, h3⟩ := hc j hj
  exact ⟨y, h1, h2, hg.cell h3 (fun e => by have := hr b e.symm; omega)⟩

/-- A number was drawn in the middle of a draw. -/
def PickD (w wr : World) (B g : Nat) (lim n : Int) (e : Ending) (w1 : World) : Prop :=
  ∃ x : Int, e = .returned (.int .i64 x) ∧ 0 ≤ x ∧ (1 ≤ n → x < n) ∧ Drawn w w1 B g (lim + 1) ∧ wr.grownBy w1 (some g)

theorem Drawn.start {w : World} {B g : Nat} {p : Int} (h : Rdr w B g p) : Drawn w w B g p := ⟨⟨p, Int.le_refl _, h⟩, World.grownBy.refl _ _⟩
theorem Drawn.lt {w wr : World} {B g : Nat} {lim : Int} (h : Drawn w wr B g lim) : g < wr.heap.size := by obtain ⟨⟨q, _, hr⟩, _⟩ := h; exact hr.lt
theorem Drawn.step {w wr w1 : World} {B g : Nat} {lim : Int} (h : Drawn w wr B g lim) {row : Option Nat} (hg : wr.grownBy w1 row) (hr : ∀ r, row = some r → g < r ∧ w.heap.size ≤ r) : Drawn w w1 B g lim := by
  obtain ⟨⟨q, hq, hrd⟩, h2⟩ := h
  refine ⟨⟨q, hq, hrd.grown hg (fun r e => (hr r e).1)⟩, ⟨hg.os.trans h2.os, hg.tape.trans h2.tape, hg.output.trans h2.output, Nat.le_trans h2.size hg.size, fun k hk hn => ?_⟩⟩
  exact (hg.block k (Nat.lt_of_lt_of_le hk h2.size) (fun e => by have := (hr k e.symm).2; omega)).trans (h2.block k hk hn)
theorem Drawn.alloc {w wr : World} {B g : Nat} {lim : Int} (h : Drawn w wr B g lim) (o : Obj) : Drawn w (wr.alloc o) B g lim := h.step (World.grownBy_alloc wr o none) (fun r e => by cases e)
theorem Drawn.le {w wr : World} {B g : Nat} {lim lim' : Int} (h : Drawn w wr B g lim) (hl : lim ≤ lim') : Drawn w wr B g lim' := by
  obtain ⟨⟨q, hq, hrd⟩, h2⟩ := h
  exact ⟨⟨q, Int.le_trans hq hl, hrd⟩, h2⟩

theorem pickD {w wr : World} {B g : Nat} {lim : Int} (n : Int) (h : Drawn w wr B g lim) (hl : lim ≤ 1000000000000) :
    Calls Try.prog 60 #[.pointer (some ⟨g, 0, none⟩), .int .i64 n] wr (PickD w wr B g lim n) := by
  obtain ⟨⟨q, hq, hrd⟩, h2⟩ := h
  refine (pick_any B g q n wr hrd (by omega)).mono ?_
  rintro e w1 ⟨x, rfl, h0, h1, hr1, hg1⟩
  exact ⟨x, rfl, h0, h1, ⟨⟨q + 1, by omega, hr1⟩, grownBy_trans h2 hg1⟩, hg1⟩

end Go.Proofs.Ytajheicheefpeaa

/- Contracts of the draws of blocks and files: they hand back some ints in new memory. -/
namespace Go.Proofs.Ytajheicheefpeaa
open Go.RowKit

/-- A list of ints was drawn, of at most m numbers. -/
def DrewI (w : World) (B g : Nat) (p : Int) (m : Nat) (e : Ending) (w' : World) : Prop :=
  ∃ zs a c, e = .returned (.slice a zs.length c) ∧ zs.length ≤ m ∧ OwnI w' w.heap.size a c zs ∧ Drawn w w' B g (p + 1000)

theorem news8 (w : World) : ∀ j u, (([1, 2, 3, 4, 5, 6, 7, 8] : List Int).map (Value.int .i64))[j]? = some u →
    (w.alloc (.cells #[.int .i64 1, .int .i64 2, .int .i64 3, .int .i64 4, .int .i64 5, .int .i64 6, .int .i64 7, .int .i64 8] 3)).cell? ((⟨w.heap.size, 0, none⟩ : Addr).add j) = some u :=
  fun j u hj => cells_new w (([1, 2, 3, 4, 5, 6, 7, 8] : List Int).map (Value.int .i64)) 3 j u hj
theorem wf8 : WfI [1, 2, 3, 4, 5, 6, 7, 8] := by
  intro z hz
  simp at hz
  omega

end Go.Proofs.Ytajheicheefpeaa

/- Contract of the draw of a store. -/
namespace Go.Proofs.Ytajheicheefpeaa
open Go.RowKit
set_option linter.unusedVariables false

/-- A store was drawn. -/
def DrewH (w wr : World) (B g : Nat) (lim : Int) (e : Ending) (w' : World) : Prop :=
  ∃ xs a c, e = .returned (.slice a xs.length c) ∧ xs.length ≤ 16 ∧ SmH xs ∧ OwnH w' wr.heap.size a c xs ∧ Drawn w w' B g lim ∧ wr.grownBy w' (some g)

theorem newHV (W : World) (y : HV) : ∀ j u, (eltH.flat [y])[j]? = some u → (W.alloc (.cells #[.int .i64 y.id, .slice y.ad y.zs.length y.cp, .int .i64 y.us] 45)).cell? ((⟨W.heap.size, 0, none⟩ : Addr).add j) = some u := newR eltH W y _ rfl

theorem useV (w : World) (x : Int) (h0 : 0 ≤ x) (h1 : x < 3) : ∃ y : Int, (w.alloc (.cells #[.int .i64 0, .int .i64 999, .int .i64 1000] 3)).cell? ⟨w.heap.size, x.toNat, none⟩ = some (.int .i64 y) ∧ 0 ≤ y ∧ y ≤ 1000 := by
  rw [cell_of_row _ w.heap.size _ _ _ (0, 0) (heap_alloc_new w _)]
  obtain rfl | rfl | rfl : x = 0 ∨ x = 1 ∨ x = 2 := by omega
  all_goals exact ⟨_, rfl, by omega, by omega⟩

/-- What is held of the world in the midst of a draw of a store. -/
structure DH (w wr : World) (B g : Nat) (lim : Int) (W : World) (a : Option Addr) (c L : Nat) (zs : List HV) : Prop where
  len : zs.length = L
  sm : SmH zs
  own : OwnH W wr.heap.size a c zs
  drawn : Drawn w W B g lim
  grow : wr.grownBy W (some g)
  lt : g < wr.heap.size

theorem DH.pick {w wr : World} {B g : Nat} {lim lim' : Int} {W W' : World} {a : Option Addr} {c L : Nat} {zs : List HV} (h : DH w wr B g lim W a c L zs) (hD : Drawn w W' B g lim') (hg : W.grownBy W' (some g)) : DH w wr B g lim' W' a c L zs :=
  ⟨h.len, h.sm, h.own.grown hg h.lt, hD, grownBy_trans h.grow hg, h.lt⟩

theorem DH.alloc {w wr : World} {B g : Nat} {lim : Int} {W : World} {a : Option Addr} {c L : Nat} {zs : List HV} (h : DH w wr B g lim W a c L zs) (o : Obj) : DH w wr B g lim (W.alloc o) a c L zs :=
  ⟨h.len, h.sm, h.own.alloc o, h.drawn.alloc o, grownBy_trans h.grow (World.grownBy_alloc W o _), h.lt⟩

theorem DH.below {w wr : World} {B g : Nat} {lim : Int} {W W' : World} {a : Option Addr} {c L : Nat} {zs : List HV} (h : DH w wr B g lim W a c L zs) (hb : Below W.heap.size W W') : DH w wr B g lim W' a c L zs :=
  ⟨h.len, h.sm, h.own.below hb, h.drawn.step (row := none) (grownBy_of_below hb _) (fun r e => by cases e), grownBy_trans h.grow (grownBy_of_below hb _), h.lt⟩

/-- A list that waits for its element. -/
structure PH (wr : World) (W : World) (zs : List HV) (ad : Option Addr) (cp : Nat) (bz : List Int) : Prop where
  own : OwnI W wr.heap.size ad cp bz
  apart : ∀ y ∈ zs, ∀ i u, apartH y ⟨i, ad, cp, bz, u⟩
  len : 1 ≤ bz.length ∧ bz.length ≤ 8

theorem PH.grown {wr W W' : World} {zs : List HV} {ad : Option Addr} {cp : Nat} {bz : List Int} {g : Nat} (h : PH wr W zs ad cp bz) (hg : W.grownBy W' (some g)) (hB : g < wr.heap.size) : PH wr W' zs ad cp bz :=
  ⟨h.own.grown hg hB, h.apart, h.len⟩

theorem DH.lit {w wr : World} {B g : Nat} {lim : Int} {W : World} {a : Option Addr} {c L : Nat} {zs : List HV} (h : DH w wr B g lim W a c L zs) (bz : List Int) (hwf : WfI bz) (hl : 1 ≤ bz.length ∧ bz.length ≤ 8) :
    DH w wr B g lim (W.alloc (.cells (bz.map (Value.int .i64)).toArray 3)) a c L zs ∧ PH wr (W.alloc (.cells (bz.map (Value.int .i64)).toArray 3)) zs (some ⟨W.heap.size, 0, none⟩) bz.length bz := by
  have ho := OwnI.lit W bz hwf (by omega)
  refine ⟨h.alloc _, ⟨ho.mono h.grow.size, fun y hy i u => ?_, hl⟩⟩
  exact (h.own.apartNew (x := ⟨i, some ⟨W.heap.size, 0, none⟩, bz.length, bz, u⟩) (Nat.le_refl _) ho y hy).1

theorem DH.push {w wr : World} {B g : Nat} {lim : Int} {W W' : World} {a a' : Option Addr} {c c' L : Nat} {zs : List HV} {ad : Option Addr} {cp : Nat} {bz : List Int} {o : Obj} {i u : Int} (h : DH w wr B g lim W a c L zs) (hp : PH wr W zs ad cp bz) (hn : 0 ≤ i ∧ i ≤ 100 ∧ 0 ≤ u ∧ u ≤ 1000)
    (hg : (W.alloc o).grownBy W' (Value.slice a L c).ownBlock) (hr : OwnR eltH W' wr.heap.size a' c' (zs ++ [⟨i, ad, cp, bz, u⟩])) (hle : w.heap.size ≤ wr.heap.size) : DH w wr B g lim W' a' c' (L + 1) (zs ++ [⟨i, ad, cp, bz, u⟩]) := by
  have hrow := fun r (hr : (Value.slice a L c).ownBlock = some r) => (h.own.row.lt r (by rw [h.len]; exact hr)).1
  refine ⟨by rw [List.length_append, h.len]; rfl, h.sm.snoc ⟨hp.len.1, hp.len.2, hn.1, hn.2.1, hn.2.2⟩, h.own.push h.len hp.own (fun y hy => hp.apart y hy i u) hg hr, ?_, ?_, h.lt⟩
  · exact (h.drawn.alloc o).step hg (fun r hr => by have := hrow r hr; have := h.lt; omega)
  · have h1 := grownBy_trans h.grow (World.grownBy_alloc W o (some g))
    refine ⟨hg.os.trans h1.os, hg.tape.trans h1.tape, hg.output.trans h1.output, Nat.le_trans h1.size hg.size, fun k hk hn => ?_⟩
    exact (hg.block k (Nat.lt_of_lt_of_le hk h1.size) (fun e => by have := hrow k e.symm; omega)).trans (h1.block k hk hn)

/-- One element has been changed. -/
theorem DH.set {w wr : World} {B g : Nat} {lim : Int} {W W' : World} {gg c L : Nat} {zs zs' : List HV} (h : DH w wr B g lim W (some ⟨gg, 0, none⟩) c L zs) (hL : zs'.length = L) (hs : SmH zs') (ho : OwnH W' wr.heap.size (some ⟨gg, 0, none⟩) c zs') (hg : W.grownBy W' (some gg)) (hgg : wr.heap.size ≤ gg) (hle : w.heap.size ≤ wr.heap.size) : DH w wr B g lim W' (some ⟨gg, 0, none⟩) c L zs' := by
  refine ⟨hL, hs, ho, h.drawn.step hg (fun r e => by injection e with e; have := h.lt; omega), ?_, h.lt⟩
  refine ⟨hg.os.trans h.grow.os, hg.tape.trans h.grow.tape, hg.output.trans h.grow.output, Nat.le_trans h.grow.size hg.size, fun k hk hn => ?_⟩
  exact (hg.block k (Nat.lt_of_lt_of_le hk h.grow.size) (fun e => by injection e with e; omega)).trans (h.grow.block k hk hn)

theorem DH.le {w wr : World} {B g : Nat} {lim lim' : Int} {W : World} {a : Option Addr} {c L : Nat} {zs : List HV} (h : DH w wr B g lim W a c L zs) (hl : lim ≤ lim') : DH w wr B g lim' W a c L zs :=
  ⟨h.len, h.sm, h.own, h.drawn.le hl, h.grow, h.lt⟩


set_option maxHeartbeats 4000000 in
theorem l91Store_any (B g : Nat) (w wr : World) (lim : Int) (h : Drawn w wr B g lim) (hl : lim ≤ 1000000000) :
    Calls Try.prog 43 #[.pointer (some ⟨g, 0, none⟩)] wr (DrewH w wr B g (lim + 110)) := by
  have HLE := Lib.hid h.2.size
  go_enter Try.func43, Try.ntmps43
  go_wp2_with fail
  have hS0 : DH w wr B g lim (wr.alloc (.cells #[] 45)) (some ⟨wr.heap.size, 0, none⟩) 0 0 [] := ⟨rfl, SmH.nil, OwnH.empty (Nat.le_refl _), h.alloc _, World.grownBy_alloc _ _ _, h.lt⟩
  clear h
  refine (pickD _ hS0.drawn (by omega)).mono ?_
  rintro e wN ⟨N, rfl, N0, N1, hD, hg⟩
  have N2 := N1 (by omega)
  have hSa := hS0.pick hD hg
  clear hD hg hS0 N1
  go_wp2_with fail
  refine (pickD _ hSa.drawn (by omega)).mono ?_
  rintro e wt ⟨t, rfl, t0, t1, hD, hg⟩
  have t2 := t1 (by omega)
  have hSb := hSa.pick hD hg
  clear hD hg hSa t1
  by_cases ht : t = 0
  · subst ht
    clear N0 N2
    go_wp2_with fail
    go_loopw [3, 5, 6] (fun v d i W => ∃ k : Nat, (k : Int) ≤ 16 ∧ i = .int .i64 k ∧ ∃ zs a c q, v = .slice a k c ∧ d = .int .i64 q ∧ 1 ≤ q ∧ q ≤ 1 + 2 * (k : Int) ∧ DH w wr B g (lim + 2 + 6 * k) W a c k zs)
      (fun _ _ i _ => (16 - intOf i).toNat)
    case atStart => exact ⟨0, by omega, rfl, [], _, _, 1, rfl, rfl, by omega, by omega, hSb.le (by omega)⟩
    case round =>
      clear hSb
      obtain ⟨k, hk, rfl, zs, a, c, q, rfl, rfl, hq0, hq1, hS⟩ := hrel
      have hk16 : k ≤ 16 := by omega
      by_cases hlt : (k : Int) < 16
      · go_wp2_with fail
        refine (pickD _ hS.drawn (by omega)).mono ?_
        rintro e wd ⟨d, rfl, d0, d1, hD, hg⟩
        have d2 := d1 (by omega)
        have hS1 := hS.pick hD hg
        clear hD hg hS d1
        go_wp2_with fail
        refine (pickD _ hS1.drawn (by omega)).mono ?_
        rintro e wx ⟨x, rfl, x0, x1, hD, hg⟩
        have x2 := x1 (by omega)
        have hS2 := hS1.pick hD hg
        clear hD hg hS1 x1
        go_wp2_with fail
        refine (pickD _ hS2.drawn (by omega)).mono ?_
        rintro e wy ⟨y, rfl, y0, y1, hD, hg⟩
        have y2 := y1 (by omega)
        have hS3 := hS2.pick hD hg
        clear hD hg hS2 y1
        obtain ⟨hS3, hP3⟩ := hS3.lit [(k : Int), x, y] (by intro z hz; simp only [List.mem_cons, List.mem_nil_iff, or_false] at hz; rcases hz with rfl | rfl | rfl <;> omega) (by simp)
        simp only [List.map_cons, List.map_nil] at hS3 hP3
        go_wp2_with fail
        refine (pickD _ hS3.drawn (by omega)).mono ?_
        rintro e wh ⟨h, rfl, h0, h1, hD, hg⟩
        have h2 := h1 (by omega)
        have hS4 := hS3.pick hD hg
        have hP4 := hP3.grown hg hS3.lt
        clear hD hg hS3 h1 hP3
        by_cases hh : h = 0
        · subst hh
          go_wp2_with fail
          refine (pickD _ hS4.drawn (by omega)).mono ?_
          rintro e wz ⟨z, rfl, z0, z1, hD, hg⟩
          have z2 := z1 (by omega)
          have hT4 := hS4.pick hD hg
          clear hD hg hS4 hP4 z1
          obtain ⟨hT4, hP4⟩ := hT4.lit [(k : Int), 1, 2, 3, 4, 5, 6, z] (by intro t ht; simp only [List.mem_cons, List.mem_nil_iff, or_false] at ht; rcases ht with rfl | rfl | rfl | rfl | rfl | rfl | rfl | rfl <;> omega) (by simp)
          simp only [List.map_cons, List.map_nil] at hT4 hP4
          go_wp2_with fail
          refine (pickD _ hT4.drawn (by omega)).mono ?_
          rintro e wu ⟨u, rfl, u0, u1, hD, hg⟩
          have u2 := u1 (by omega)
          have hS5 := hT4.pick hD hg
          have hP5 := hP4.grown hg hT4.lt
          clear hD hg hT4 u1 hP4
          go_wp2_with (at_builtin; refine wp_appR eltH rfl _ _ rfl hS5.len rfl (hS5.own.row.alloc _) ⟨wu.heap.size, 0, none⟩ 1 1 [⟨q + d, (some ⟨wz.heap.size, 0, none⟩), 8, [(k : Int), 1, 2, 3, 4, 5, 6, z], 1 + u⟩] rfl rfl (newHV wu ⟨q + d, (some ⟨wz.heap.size, 0, none⟩), 8, [(k : Int), 1, 2, 3, 4, 5, 6, z], 1 + u⟩) (by omega) (by have := hS5.grow.size; simp; omega) ?_; intro a6 c6 w6 hR6 hG6)
          have hS6 := hS5.push hP5 (i := q + d) (u := 1 + u) (by omega) hG6 hR6 HLE.out
          clear hR6 hG6 hS5 hP5
          go_roundw
          case rel => exact ⟨k + 1, by omega, by go_num, _, a6, c6, q + d + 1, rfl, rfl, by omega, by omega, hS6.le (by omega)⟩
          case measure => simp [intOf]; omega
        · have hh0 : (h == 0) = false := by simp [hh]
          go_wp2_with fail
          refine (pickD _ hS4.drawn (by omega)).mono ?_
          rintro e wu ⟨u, rfl, u0, u1, hD, hg⟩
          have u2 := u1 (by omega)
          have hS5 := hS4.pick hD hg
          have hP5 := hP4.grown hg hS4.lt
          clear hD hg hS4 u1 hP4
          go_wp2_with (at_builtin; refine wp_appR eltH rfl _ _ rfl hS5.len rfl (hS5.own.row.alloc _) ⟨wu.heap.size, 0, none⟩ 1 1 [⟨q + d, (some ⟨wy.heap.size, 0, none⟩), 3, [(k : Int), x, y], 1 + u⟩] rfl rfl (newHV wu ⟨q + d, (some ⟨wy.heap.size, 0, none⟩), 3, [(k : Int), x, y], 1 + u⟩) (by omega) (by have := hS5.grow.size; simp; omega) ?_; intro a6 c6 w6 hR6 hG6)
          have hS6 := hS5.push hP5 (i := q + d) (u := 1 + u) (by omega) hG6 hR6 HLE.out
          clear hR6 hG6 hS5 hP5
          go_roundw
          case rel => exact ⟨k + 1, by omega, by go_num, _, a6, c6, q + d + 1, rfl, rfl, by omega, by omega, hS6.le (by omega)⟩
          case measure => simp [intOf]; omega
      · have HK := Lib.hid (show (k : Int) = 16 by omega)
        go_wp2_with fail
        refine (pickD _ hS.drawn (by omega)).mono ?_
        rintro e ws ⟨s, rfl, s0, s1, hD, hg⟩
        have s2 := s1 (by omega)
        have hS1 := hS.pick hD hg
        clear hD hg hS s1
        by_cases hs0 : s = 0
        · subst hs0
          by_cases hn1 : (1 : Int) < 16
          · have hk2 : 2 ≤ k := by have := HK.out; omega
            obtain ⟨gg, rfl, hBg, hgg⟩ := hS1.own.row.head (by rw [hS1.len]; omega)
            obtain ⟨x0, hx0⟩ : ∃ x0, zs[0]? = some x0 := ⟨_, List.getElem?_eq_getElem (by rw [hS1.len]; omega)⟩
            obtain ⟨x1, hx1⟩ : ∃ x1, zs[1]? = some x1 := ⟨_, List.getElem?_eq_getElem (by rw [hS1.len]; omega)⟩
            have c1 := (cellsH hS1.own.row hx0).1.2.1
            have hO0 := hS1.own.ins x0 (List.mem_of_getElem? hx0)
            have hw0 := hO0.wf
            have hl0 := (hS1.sm x0 (List.mem_of_getElem? hx0)).1
            have hl8 := (hS1.sm x0 (List.mem_of_getElem? hx0)).2.1
            obtain ⟨g0, hg0, _, hg0l⟩ := hO0.head (by omega)
            have hr0 := hO0.alloc (.cells #[] 3)
            rw [hg0] at hr0 c1
            have hcl := hr0.cells
            have hik : (1 : Int) < (k : Int) := by omega
            have hik0 : (0 : Int) < (k : Int) := by omega
            have hikn : 0 < k := by omega
            have hikn1 : 1 < k := by omega
            have d0 := (World.cell?_alloc_lt ws (.cells #[] 3) ⟨gg, 0 * 3 + 1, none⟩ hgg).trans c1
            simp only [Nat.zero_mul, Nat.zero_add] at d0
            have HX := Lib.hid hx1
            have HW := Lib.hid hw0
            have HC := Lib.hid hcl
            clear c1 hx0 hx1 hcl hr0 hw0 hO0 hg0
            go_wp2_with (at_builtin; refine wp_app rfl _ _ rfl rfl (OwnI.empty (Nat.le_refl _)) ⟨g0, 0, none⟩ x0.zs.length x0.cp x0.zs rfl rfl HC.out HW.out (by simp; omega) (by simp) ?_; intro a5 c5 w5 hO5 hG5; have hb5 : Below ws.heap.size ws w5 := ((Below.refl _ _).alloc (Nat.le_refl _) _).grown hG5 (by simp) (by intro r hr; simp [Value.ownBlock] at hr; omega); have hS5 := hS1.below hb5; have q1 : w5.cell? ⟨gg, 4, none⟩ = some (.slice x1.ad x1.zs.length x1.cp) := (cellsH hS5.own.row HX.out).1.2.1; have f1 : w5.frozen? ⟨gg, 4, none⟩ = false := (cellsH hS5.own.row HX.out).2.2.1)
            have hset := hS5.own.row.set1 1 x1 ⟨x1.id, a5, c5, x0.zs, x1.us⟩ HX.out 1 (.slice a5 x0.zs.length c5) (by decide) rfl
            have hsx := hS5.sm x1 (List.mem_of_getElem? HX.out)
            have hap := hS1.own.apartNew (x := ⟨x1.id, a5, c5, x0.zs, x1.us⟩) (Nat.le_refl _) hO5
            have hS6 := Lib.hid (hS5.set (zs' := zs.set 1 ⟨x1.id, a5, c5, x0.zs, x1.us⟩) (by rw [List.length_set, hS5.len]) (hS5.sm.set 1 ⟨hl0, hl8, hsx.2.2.1, hsx.2.2.2.1, hsx.2.2.2.2.1, hsx.2.2.2.2.2⟩) (hS5.own.setList HX.out (y := ⟨x1.id, a5, c5, x0.zs, x1.us⟩) (hO5.mono hS1.grow.size) hap hset.1 hset.2) hset.2 hBg HLE.out)
            clear hset hS1 hS5 hap hsx hO5 hG5 hb5 d0
            go_ret
            exact ⟨_, _, c, by rw [hS6.out.len]; rfl, by rw [hS6.out.len]; omega, hS6.out.sm, hS6.out.own, hS6.out.drawn.le (by omega), hS6.out.grow⟩
          · omega
        · have hs0' : (s == 0) = false := by simp [hs0]
          by_cases hs1 : s = 1
          · subst hs1
            by_cases hn1 : (0 : Int) < 16
            · have hk1 : 1 ≤ k := by have := HK.out; omega
              obtain ⟨gg, rfl, hBg, hgg⟩ := hS1.own.row.head (by rw [hS1.len]; omega)
              go_wp2_with fail
              refine (pickD _ hS1.drawn (by omega)).mono ?_
              rintro e wj ⟨j, rfl, j0, j1, hD, hg⟩
              have j2 := j1 (by omega)
              have hS2 := hS1.pick hD hg
              clear hD hg hS1 j1
              obtain ⟨j, rfl⟩ := Int.eq_ofNat_of_zero_le j0
              have hjk : j < k := by have := HK.out; omega
              have hS3 := hS2.alloc (.cells #[.int .i64 0, .int .i64 999, .int .i64 1000] 3)
              have hgj : g < wj.heap.size := Nat.lt_of_lt_of_le hS2.lt hS2.grow.size
              clear hS2
              go_wp2_with fail
              refine (pickD _ hS3.drawn (by omega)).mono ?_
              rintro e wm ⟨m, rfl, m0, m1, hD, hg⟩
              have m2 := m1 (by omega)
              have hS4 := hS3.pick hD hg
              obtain ⟨v, hv, hv0, hv1⟩ := useV wj m m0 m2
              have hv4 := hg.cell hv (by intro h; injection h with h; simp only at h; omega)
              clear hD hg hS3 m1 hv hgj
              obtain ⟨x, hx⟩ : ∃ x, zs[j]? = some x := ⟨_, List.getElem?_eq_getElem (by rw [hS4.len]; omega)⟩
              obtain ⟨⟨c0, c1, c2⟩, f0, f1, f2⟩ := cellsH hS4.own.row hx
              have hset := hS4.own.row.set1 j x ⟨x.id, x.ad, x.cp, x.zs, v⟩ hx 2 (.int .i64 v) (by decide) rfl
              have hsx := hS4.sm x (List.mem_of_getElem? hx)
              have hS5 := Lib.hid (hS4.set (zs' := zs.set j ⟨x.id, x.ad, x.cp, x.zs, v⟩) (by rw [List.length_set, hS4.len]) (hS4.sm.set j ⟨hsx.1, hsx.2.1, hsx.2.2.1, hsx.2.2.2.1, hv0, hv1⟩) (hS4.own.setNums hx ⟨rfl, rfl, rfl⟩ hset.1 hset.2) hset.2 hBg HLE.out)
              clear hset hS4 hx c0 c1 f0 f1 hsx
              go_wp2
              go_ret
              exact ⟨_, _, c, by rw [hS5.out.len]; rfl, by rw [hS5.out.len]; omega, hS5.out.sm, hS5.out.own, hS5.out.drawn.le (by omega), hS5.out.grow⟩
            · omega
          · have hs1' : (s == 1) = false := by simp [hs1]
            go_wp2
            go_ret
            exact ⟨zs, a, c, by rw [hS1.len]; rfl, by rw [hS1.len]; omega, hS1.sm, hS1.own, hS1.drawn.le (by omega), hS1.grow⟩
  · have ht0 : (t == 0) = false := by simp [ht]
    go_wp2_with fail
    go_loopw [3, 5, 6] (fun v d i W => ∃ k : Nat, (k : Int) ≤ N ∧ i = .int .i64 k ∧ ∃ zs a c q, v = .slice a k c ∧ d = .int .i64 q ∧ 1 ≤ q ∧ q ≤ 1 + 2 * (k : Int) ∧ DH w wr B g (lim + 2 + 6 * k) W a c k zs)
      (fun _ _ i _ => (N - intOf i).toNat)
    case atStart => exact ⟨0, by omega, rfl, [], _, _, 1, rfl, rfl, by omega, by omega, hSb.le (by omega)⟩
    case round =>
      clear hSb
      obtain ⟨k, hk, rfl, zs, a, c, q, rfl, rfl, hq0, hq1, hS⟩ := hrel
      have hk16 : k ≤ 16 := by omega
      by_cases hlt : (k : Int) < N
      · go_wp2_with fail
        refine (pickD _ hS.drawn (by omega)).mono ?_
        rintro e wd ⟨d, rfl, d0, d1, hD, hg⟩
        have d2 := d1 (by omega)
        have hS1 := hS.pick hD hg
        clear hD hg hS d1
        go_wp2_with fail
        refine (pickD _ hS1.drawn (by omega)).mono ?_
        rintro e wx ⟨x, rfl, x0, x1, hD, hg⟩
        have x2 := x1 (by omega)
        have hS2 := hS1.pick hD hg
        clear hD hg hS1 x1
        go_wp2_with fail
        refine (pickD _ hS2.drawn (by omega)).mono ?_
        rintro e wy ⟨y, rfl, y0, y1, hD, hg⟩
        have y2 := y1 (by omega)
        have hS3 := hS2.pick hD hg
        clear hD hg hS2 y1
        obtain ⟨hS3, hP3⟩ := hS3.lit [(k : Int), x, y] (by intro z hz; simp only [List.mem_cons, List.mem_nil_iff, or_false] at hz; rcases hz with rfl | rfl | rfl <;> omega) (by simp)
        simp only [List.map_cons, List.map_nil] at hS3 hP3
        go_wp2_with fail
        refine (pickD _ hS3.drawn (by omega)).mono ?_
        rintro e wh ⟨h, rfl, h0, h1, hD, hg⟩
        have h2 := h1 (by omega)
        have hS4 := hS3.pick hD hg
        have hP4 := hP3.grown hg hS3.lt
        clear hD hg hS3 h1 hP3
        by_cases hh : h = 0
        · subst hh
          go_wp2_with fail
          refine (pickD _ hS4.drawn (by omega)).mono ?_
          rintro e wz ⟨z, rfl, z0, z1, hD, hg⟩
          have z2 := z1 (by omega)
          have hT4 := hS4.pick hD hg
          clear hD hg hS4 hP4 z1
          obtain ⟨hT4, hP4⟩ := hT4.lit [(k : Int), 1, 2, 3, 4, 5, 6, z] (by intro t ht; simp only [List.mem_cons, List.mem_nil_iff, or_false] at ht; rcases ht with rfl | rfl | rfl | rfl | rfl | rfl | rfl | rfl <;> omega) (by simp)
          simp only [List.map_cons, List.map_nil] at hT4 hP4
          go_wp2_with fail
          refine (pickD _ hT4.drawn (by omega)).mono ?_
          rintro e wu ⟨u, rfl, u0, u1, hD, hg⟩
          have u2 := u1 (by omega)
          have hS5 := hT4.pick hD hg
          have hP5 := hP4.grown hg hT4.lt
          clear hD hg hT4 u1 hP4
          go_wp2_with (at_builtin; refine wp_appR eltH rfl _ _ rfl hS5.len rfl (hS5.own.row.alloc _) ⟨wu.heap.size, 0, none⟩ 1 1 [⟨q + d, (some ⟨wz.heap.size, 0, none⟩), 8, [(k : Int), 1, 2, 3, 4, 5, 6, z], 1 + u⟩] rfl rfl (newHV wu ⟨q + d, (some ⟨wz.heap.size, 0, none⟩), 8, [(k : Int), 1, 2, 3, 4, 5, 6, z], 1 + u⟩) (by omega) (by have := hS5.grow.size; simp; omega) ?_; intro a6 c6 w6 hR6 hG6)
          have hS6 := hS5.push hP5 (i := q + d) (u := 1 + u) (by omega) hG6 hR6 HLE.out
          clear hR6 hG6 hS5 hP5
          go_roundw
          case rel => exact ⟨k + 1, by omega, by go_num, _, a6, c6, q + d + 1, rfl, rfl, by omega, by omega, hS6.le (by omega)⟩
          case measure => simp [intOf]; omega
        · have hh0 : (h == 0) = false := by simp [hh]
          go_wp2_with fail
          refine (pickD _ hS4.drawn (by omega)).mono ?_
          rintro e wu ⟨u, rfl, u0, u1, hD, hg⟩
          have u2 := u1 (by omega)
          have hS5 := hS4.pick hD hg
          have hP5 := hP4.grown hg hS4.lt
          clear hD hg hS4 u1 hP4
          go_wp2_with (at_builtin; refine wp_appR eltH rfl _ _ rfl hS5.len rfl (hS5.own.row.alloc _) ⟨wu.heap.size, 0, none⟩ 1 1 [⟨q + d, (some ⟨wy.heap.size, 0, none⟩), 3, [(k : Int), x, y], 1 + u⟩] rfl rfl (newHV wu ⟨q + d, (some ⟨wy.heap.size, 0, none⟩), 3, [(k : Int), x, y], 1 + u⟩) (by omega) (by have := hS5.grow.size; simp; omega) ?_; intro a6 c6 w6 hR6 hG6)
          have hS6 := hS5.push hP5 (i := q + d) (u := 1 + u) (by omega) hG6 hR6 HLE.out
          clear hR6 hG6 hS5 hP5
          go_roundw
          case rel => exact ⟨k + 1, by omega, by go_num, _, a6, c6, q + d + 1, rfl, rfl, by omega, by omega, hS6.le (by omega)⟩
          case measure => simp [intOf]; omega
      · have HK := Lib.hid (show (k : Int) = N by omega)
        go_wp2_with fail
        refine (pickD _ hS.drawn (by omega)).mono ?_
        rintro e ws ⟨s, rfl, s0, s1, hD, hg⟩
        have s2 := s1 (by omega)
        have hS1 := hS.pick hD hg
        clear hD hg hS s1
        by_cases hs0 : s = 0
        · subst hs0
          by_cases hn1 : (1 : Int) < N
          · have hk2 : 2 ≤ k := by have := HK.out; omega
            obtain ⟨gg, rfl, hBg, hgg⟩ := hS1.own.row.head (by rw [hS1.len]; omega)
            obtain ⟨x0, hx0⟩ : ∃ x0, zs[0]? = some x0 := ⟨_, List.getElem?_eq_getElem (by rw [hS1.len]; omega)⟩
            obtain ⟨x1, hx1⟩ : ∃ x1, zs[1]? = some x1 := ⟨_, List.getElem?_eq_getElem (by rw [hS1.len]; omega)⟩
            have c1 := (cellsH hS1.own.row hx0).1.2.1
            have hO0 := hS1.own.ins x0 (List.mem_of_getElem? hx0)
            have hw0 := hO0.wf
            have hl0 := (hS1.sm x0 (List.mem_of_getElem? hx0)).1
            have hl8 := (hS1.sm x0 (List.mem_of_getElem? hx0)).2.1
            obtain ⟨g0, hg0, _, hg0l⟩ := hO0.head (by omega)
            have hr0 := hO0.alloc (.cells #[] 3)
            rw [hg0] at hr0 c1
            have hcl := hr0.cells
            have hik : (1 : Int) < (k : Int) := by omega
            have hik0 : (0 : Int) < (k : Int) := by omega
            have hikn : 0 < k := by omega
            have hikn1 : 1 < k := by omega
            have d0 := (World.cell?_alloc_lt ws (.cells #[] 3) ⟨gg, 0 * 3 + 1, none⟩ hgg).trans c1
            simp only [Nat.zero_mul, Nat.zero_add] at d0
            have HX := Lib.hid hx1
            have HW := Lib.hid hw0
            have HC := Lib.hid hcl
            clear c1 hx0 hx1 hcl hr0 hw0 hO0 hg0
            go_wp2_with (at_builtin; refine wp_app rfl _ _ rfl rfl (OwnI.empty (Nat.le_refl _)) ⟨g0, 0, none⟩ x0.zs.length x0.cp x0.zs rfl rfl HC.out HW.out (by simp; omega) (by simp) ?_; intro a5 c5 w5 hO5 hG5; have hb5 : Below ws.heap.size ws w5 := ((Below.refl _ _).alloc (Nat.le_refl _) _).grown hG5 (by simp) (by intro r hr; simp [Value.ownBlock] at hr; omega); have hS5 := hS1.below hb5; have q1 : w5.cell? ⟨gg, 4, none⟩ = some (.slice x1.ad x1.zs.length x1.cp) := (cellsH hS5.own.row HX.out).1.2.1; have f1 : w5.frozen? ⟨gg, 4, none⟩ = false := (cellsH hS5.own.row HX.out).2.2.1)
            have hset := hS5.own.row.set1 1 x1 ⟨x1.id, a5, c5, x0.zs, x1.us⟩ HX.out 1 (.slice a5 x0.zs.length c5) (by decide) rfl
            have hsx := hS5.sm x1 (List.mem_of_getElem? HX.out)
            have hap := hS1.own.apartNew (x := ⟨x1.id, a5, c5, x0.zs, x1.us⟩) (Nat.le_refl _) hO5
            have hS6 := Lib.hid (hS5.set (zs' := zs.set 1 ⟨x1.id, a5, c5, x0.zs, x1.us⟩) (by rw [List.length_set, hS5.len]) (hS5.sm.set 1 ⟨hl0, hl8, hsx.2.2.1, hsx.2.2.2.1, hsx.2.2.2.2.1, hsx.2.2.2.2.2⟩) (hS5.own.setList HX.out (y := ⟨x1.id, a5, c5, x0.zs, x1.us⟩) (hO5.mono hS1.grow.size) hap hset.1 hset.2) hset.2 hBg HLE.out)
            clear hset hS1 hS5 hap hsx hO5 hG5 hb5 d0
            go_ret
            exact ⟨_, _, c, by rw [hS6.out.len]; rfl, by rw [hS6.out.len]; omega, hS6.out.sm, hS6.out.own, hS6.out.drawn.le (by omega), hS6.out.grow⟩
          · go_wp2
            go_ret
            exact ⟨zs, a, c, by rw [hS1.len]; rfl, by rw [hS1.len]; omega, hS1.sm, hS1.own, hS1.drawn.le (by omega), hS1.grow⟩
        · have hs0' : (s == 0) = false := by simp [hs0]
          by_cases hs1 : s = 1
          · subst hs1
            by_cases hn1 : (0 : Int) < N
            · have hk1 : 1 ≤ k := by have := HK.out; omega
              obtain ⟨gg, rfl, hBg, hgg⟩ := hS1.own.row.head (by rw [hS1.len]; omega)
              go_wp2_with fail
              refine (pickD _ hS1.drawn (by omega)).mono ?_
              rintro e wj ⟨j, rfl, j0, j1, hD, hg⟩
              have j2 := j1 (by omega)
              have hS2 := hS1.pick hD hg
              clear hD hg hS1 j1
              obtain ⟨j, rfl⟩ := Int.eq_ofNat_of_zero_le j0
              have hjk : j < k := by have := HK.out; omega
              have hS3 := hS2.alloc (.cells #[.int .i64 0, .int .i64 999, .int .i64 1000] 3)
              have hgj : g < wj.heap.size := Nat.lt_of_lt_of_le hS2.lt hS2.grow.size
              clear hS2
              go_wp2_with fail
              refine (pickD _ hS3.drawn (by omega)).mono ?_
              rintro e wm ⟨m, rfl, m0, m1, hD, hg⟩
              have m2 := m1 (by omega)
              have hS4 := hS3.pick hD hg
              obtain ⟨v, hv, hv0, hv1⟩ := useV wj m m0 m2
              have hv4 := hg.cell hv (by intro h; injection h with h; simp only at h; omega)
              clear hD hg hS3 m1 hv hgj
              obtain ⟨x, hx⟩ : ∃ x, zs[j]? = some x := ⟨_, List.getElem?_eq_getElem (by rw [hS4.len]; omega)⟩
              obtain ⟨⟨c0, c1, c2⟩, f0, f1, f2⟩ := cellsH hS4.own.row hx
              have hset := hS4.own.row.set1 j x ⟨x.id, x.ad, x.cp, x.zs, v⟩ hx 2 (.int .i64 v) (by decide) rfl
              have hsx := hS4.sm x (List.mem_of_getElem? hx)
              have hS5 := Lib.hid (hS4.set (zs' := zs.set j ⟨x.id, x.ad, x.cp, x.zs, v⟩) (by rw [List.length_set, hS4.len]) (hS4.sm.set j ⟨hsx.1, hsx.2.1, hsx.2.2.1, hsx.2.2.2.1, hv0, hv1⟩) (hS4.own.setNums hx ⟨rfl, rfl, rfl⟩ hset.1 hset.2) hset.2 hBg HLE.out)
              clear hset hS4 hx c0 c1 f0 f1 hsx
              go_wp2
              go_ret
              exact ⟨_, _, c, by rw [hS5.out.len]; rfl, by rw [hS5.out.len]; omega, hS5.out.sm, hS5.out.own, hS5.out.drawn.le (by omega), hS5.out.grow⟩
            · go_wp2
              go_ret
              exact ⟨zs, a, c, by rw [hS1.len]; rfl, by rw [hS1.len]; omega, hS1.sm, hS1.own, hS1.drawn.le (by omega), hS1.grow⟩
          · have hs1' : (s == 1) = false := by simp [hs1]
            go_wp2
            go_ret
            exact ⟨zs, a, c, by rw [hS1.len]; rfl, by rw [hS1.len]; omega, hS1.sm, hS1.own, hS1.drawn.le (by omega), hS1.grow⟩

end Go.Proofs.Ytajheicheefpeaa

/- The draw of a store out of a code; validity of a list of elements, of a part of it. -/
namespace Go.Proofs.Ytajheicheefpeaa
open Go.RowKit
set_option linter.unusedVariables false

theorem InH.sub {w : World} {xs ys : List HV} (h : InH w xs) (hs : ∀ x ∈ ys, x ∈ xs) : InH w ys := fun x hx => h x (hs x hx)

def storeHV (xs : List HV) : Bool := storeV (valsH xs)

theorem storeH_less {xs : List HV} (h : storeHV xs = true) (k : Nat) : storeHV (xs.take k ++ xs.drop (k + 1)) = true := by
  have := store_less h k
  unfold storeHV valsH at *
  rwa [List.map_append, List.map_take, List.map_drop]

theorem storeH_twice {xs : List HV} {k : Nat} (hk : k < xs.length) : storeHV (xs.take (k + 1) ++ xs.drop k) = false := by
  have := store_twice (vs := valsH xs) (k := k) (by rw [valsH_len]; exact hk)
  unfold storeHV valsH at *
  rwa [List.map_append, List.map_take, List.map_drop]

theorem implSH_any (a : Option Addr) (n c : Nat) (xs : List HV) (w : World) (hr : RdR eltH w a n xs) (hi : InH w xs) (hs : ∀ x ∈ xs, x.zs.length ≤ 4611686018427387904) (hc : n ≤ c ∧ c ≤ maxLen) :
    Calls Try.prog 26 #[.slice a n c] w (RetB w (.bool (storeHV xs))) := implStoreValid_any a n c xs w hr hi hs hc.1 (by have := hc.2; unfold maxLen at this; omega)

theorem specSH_any (a : Option Addr) (n c : Nat) (xs : List HV) (w : World) (hr : RdR eltH w a n xs) (hi : InH w xs) (hs : ∀ x ∈ xs, x.zs.length ≤ 4611686018427387904) (hn : n ≤ 4611686018427387904) :
    Calls Try.prog 32 #[.slice a n c] w (RetB w (.bool (storeHV xs))) := specStoreValid_any a n c xs w hr hi hs hn

/-- A store was drawn into new memory. -/
def GotH (w : World) (e : Ending) (w' : World) : Prop :=
  ∃ xs a c, e = .returned (.slice a xs.length c) ∧ xs.length ≤ 16 ∧ (∀ x ∈ xs, x.zs.length ≤ 8) ∧ OwnR eltH w' w.heap.size a c xs ∧ InH w' xs ∧ Below w.heap.size w w'

theorem got_belowH {w w1 w2 : World} (hb : Below w.heap.size w w1) (hs : w1.heap.size = w.heap.size + 1) (hg : w1.grownBy w2 (some w.heap.size)) : Below w.heap.size w w2 :=
  ⟨hg.os.trans hb.os, hg.tape.trans hb.tape, hg.output.trans hb.output, Nat.le_trans hb.size hg.size, fun k hk => (hg.block k (by omega) (fun e => by injection e with e; omega)).trans (hb.block k hk)⟩

end Go.Proofs.Ytajheicheefpeaa

/- Contract of DrawChecksOf: a drawn store. -/
namespace Go.Proofs.Ytajheicheefpeaa
open Go.RowKit
set_option linter.unusedVariables false

set_option maxHeartbeats 400000 in
theorem DrawChecksOf_any (a : Option Addr) (n c : Nat) (w : World) (h : RdC w a n) (hc : n ≤ c) (hn : n ≤ 1048576) :
    Calls Try.prog 24 #[.slice a n c] w (GotH w) := by
  go_enter Try.func24, Try.ntmps24
  go_wp2_with fail
  with_reducible refine (l6Open_any a n c _ h hc hn).mono ?_
  rintro e w1 ⟨rfl, hR, hb1, hsz⟩
  have HS := Lib.hid hsz
  clear hsz
  go_wp2_with fail
  with_reducible refine (l91Store_any _ _ _ _ _ (Drawn.start hR) (by omega)).mono ?_
  rintro e w2 ⟨zs, a2, c2, rfl, hz5, hsm, hO, hD, hg⟩
  have hb2 := got_belowH hb1 HS.out hg
  go_wp2
  go_ret
  exact ⟨zs, a2, c2, rfl, hz5, fun x hx => (hsm x hx).2.1, hO.row.mono hb1.size, hO.inn, hb2⟩

end Go.Proofs.Ytajheicheefpeaa

/- FnChecks: the pieces of its text, alone. -/
namespace Go.Proofs.Ytajheicheefpeaa
open Go.Proofs
open Go.Conc Go.RowKit
set_option linter.unusedSimpArgs false
set_option linter.unusedVariables false

noncomputable def body7 : Code := Try.f7.body.getD .skip
noncomputable def c7_3 : Code := match body7 with | .seq _ (.seq _ (.seq x _)) => x | _ => .skip
noncomputable def c7_4 : Code := match body7 with | .seq _ (.seq _ (.seq _ (.seq x _))) => x | _ => .skip
noncomputable def c7_5 : Code := match body7 with | .seq _ (.seq _ (.seq _ (.seq _ (.seq x _)))) => x | _ => .skip
noncomputable def c7_6 : Code := match body7 with | .seq _ (.seq _ (.seq _ (.seq _ (.seq _ (.seq x _))))) => x | _ => .skip
noncomputable def c7_7 : Code := match body7 with | .seq _ (.seq _ (.seq _ (.seq _ (.seq _ (.seq _ (.seq x _)))))) => x | _ => .skip

section
variable {a la oa wa : Option Addr} {n c nl lc ol oc wc : Nat} {xs : List HV} {LL : List (Int × Int)} {bb : Bool} {w0 : World}

def Q7_3 (a : Option Addr) (n c : Nat) (w0 : World) (b : Bool) (T : Array Value) (w' : World) : Prop :=
  b = false ∧ BT w0 w' ∧ ∃ xs la lc, xs.length ≤ 16 ∧ (∀ x ∈ xs, x.zs.length ≤ 8) ∧ OwnR eltH w' w0.heap.size la lc xs ∧ InH w' xs ∧ ∃ nl, nl = xs.length ∧ T = #[.slice a n c, undef, .bool false, .slice la nl lc, undef, undef, undef, undef, undef, .slice a n c, .int .i64 n, .bool false, .slice a n c, .slice la nl lc, undef, undef, undef, undef, undef, undef, undef, undef, undef, undef, undef, undef, undef, undef, undef, undef, undef, undef, undef, undef, undef, undef, undef, undef, undef, undef, undef, undef, undef, undef, undef, undef, undef, undef, undef, undef, undef, undef, undef, undef, undef, undef, undef, undef, undef, undef, undef, undef, undef, undef, undef, undef, undef, undef, undef, undef, undef, undef, undef, undef, undef, undef, undef, undef, undef, undef, undef, undef, undef, undef, undef, undef, undef, undef]

set_option maxRecDepth 100000 in
set_option maxHeartbeats 1000000 in
theorem draw7_wp (h : RdC w0 a n) (hc : n ≤ c) (hn : n ≤ 1048576) : c7_3.wp Try.prog (QW (Q7_3 a n c w0)) ⟨#[.slice a n c, undef, .bool false, undef, undef, undef, undef, undef, undef, .slice a n c, .int .i64 n, .bool false, undef, undef, undef, undef, undef, undef, undef, undef, undef, undef, undef, undef, undef, undef, undef, undef, undef, undef, undef, undef, undef, undef, undef, undef, undef, undef, undef, undef, undef, undef, undef, undef, undef, undef, undef, undef, undef, undef, undef, undef, undef, undef, undef, undef, undef, undef, undef, undef, undef, undef, undef, undef, undef, undef, undef, undef, undef, undef, undef, undef, undef, undef, undef, undef, undef, undef, undef, undef, undef, undef, undef, undef, undef, undef, undef, undef], []⟩ w0 := by
  have K := DrawChecksOf_any a n c w0 h hc hn
  simp only [c7_3, body7, Try.f7, Option.getD_some]
  go_wp2_with fail
  with_reducible refine K.mono ?_
  rintro e w1 ⟨xs, la, lc, rfl, h1, h2, h3, h4, hb⟩
  clear K
  have H2 := Lib.hid h2
  clear h2
  go_wp2
  exact ⟨rfl, rfl, BT.of hb, xs, la, lc, h1, H2.out, h3, h4, _, rfl, rfl⟩

def Q7_4 (a la : Option Addr) (n c nl lc : Nat) (LL : List (Int × Int)) (bb : Bool) (w0 : World) (b : Bool) (T : Array Value) (w' : World) : Prop :=
  b = false ∧ BT w0 w' ∧ ∃ oa oc, OwnX w' w0.heap.size oa oc LL ∧ ∃ ol, ol = LL.length ∧ T = #[.slice a n c, undef, .bool false, .slice la nl lc, .slice oa ol oc, .bool bb, undef, undef, undef, .slice a n c, .int .i64 n, .bool false, .slice a n c, .slice la nl lc, .tuple #[.slice oa ol oc, .bool bb], .slice la nl lc, .tuple #[.slice oa ol oc, .bool bb], .slice oa ol oc, .bool bb, undef, undef, undef, undef, undef, undef, undef, undef, undef, undef, undef, undef, undef, undef, undef, undef, undef, undef, undef, undef, undef, undef, undef, undef, undef, undef, undef, undef, undef, undef, undef, undef, undef, undef, undef, undef, undef, undef, undef, undef, undef, undef, undef, undef, undef, undef, undef, undef, undef, undef, undef, undef, undef, undef, undef, undef, undef, undef, undef, undef, undef, undef, undef, undef, undef, undef, undef, undef, undef]

set_option maxRecDepth 100000 in
set_option maxHeartbeats 1000000 in
theorem of7_wp (hr : RdR eltH w0 la nl xs) (hi : InH w0 xs) (hs : ∀ x ∈ xs, x.zs.length ≤ 4611686018427387904) (hl : nl ≤ lc) (hc : lc ≤ 9223372036854775807) (hR : checksR (valsH xs) = (LL, bb)) :
    c7_4.wp Try.prog (QW (Q7_4 a la n c nl lc LL bb w0)) ⟨#[.slice a n c, undef, .bool false, .slice la nl lc, undef, undef, undef, undef, undef, .slice a n c, .int .i64 n, .bool false, .slice a n c, .slice la nl lc, undef, undef, undef, undef, undef, undef, undef, undef, undef, undef, undef, undef, undef, undef, undef, undef, undef, undef, undef, undef, undef, undef, undef, undef, undef, undef, undef, undef, undef, undef, undef, undef, undef, undef, undef, undef, undef, undef, undef, undef, undef, undef, undef, undef, undef, undef, undef, undef, undef, undef, undef, undef, undef, undef, undef, undef, undef, undef, undef, undef, undef, undef, undef, undef, undef, undef, undef, undef, undef, undef, undef, undef, undef, undef], []⟩ w0 := by
  have K := implChecksOf_any la nl lc xs w0 hr hi hs hl hc
  rw [hR] at K
  clear hR
  simp only [c7_4, body7, Try.f7, Option.getD_some]
  go_wp2_with fail
  with_reducible refine K.mono ?_
  rintro e w1 ⟨oa, oc, rfl, hO, hb⟩
  clear K
  go_wp2
  exact ⟨rfl, rfl, BT.of hb, oa, oc, hO, _, rfl, rfl⟩

def Q7_5 (a la oa : Option Addr) (n c nl lc ol oc : Nat) (LL : List (Int × Int)) (bb : Bool) (w0 : World) (b : Bool) (T : Array Value) (w' : World) : Prop :=
  b = false ∧ BT w0 w' ∧ ∃ wa wc, OwnX w' w0.heap.size wa wc LL ∧ T = #[.slice a n c, undef, .bool false, .slice la nl lc, .slice oa ol oc, .bool bb, .slice wa ol wc, .bool bb, undef, .slice a n c, .int .i64 n, .bool false, .slice a n c, .slice la nl lc, .tuple #[.slice oa ol oc, .bool bb], .slice la nl lc, .tuple #[.slice oa ol oc, .bool bb], .slice oa ol oc, .bool bb, .tuple #[.slice wa ol wc, .bool bb], .slice la nl lc, .tuple #[.slice wa ol wc, .bool bb], .slice wa ol wc, .bool bb, undef, undef, undef, undef, undef, undef, undef, undef, undef, undef, undef, undef, undef, undef, undef, undef, undef, undef, undef, undef, undef, undef, undef, undef, undef, undef, undef, undef, undef, undef, undef, undef, undef, undef, undef, undef, undef, undef, undef, undef, undef, undef, undef, undef, undef, undef, undef, undef, undef, undef, undef, undef, undef, undef, undef, undef, undef, undef, undef, undef, undef, undef, undef, undef]

set_option maxRecDepth 100000 in
set_option maxHeartbeats 1000000 in
theorem spec7_wp (hr : RdR eltH w0 la nl xs) (hi : InH w0 xs) (hs : ∀ x ∈ xs, x.zs.length ≤ 4611686018427387904) (hn : nl ≤ 4611686018427387904) (hR : checksR (valsH xs) = (LL, bb)) (hol : ol = LL.length) :
    c7_5.wp Try.prog (QW (Q7_5 a la oa n c nl lc ol oc LL bb w0)) ⟨#[.slice a n c, undef, .bool false, .slice la nl lc, .slice oa ol oc, .bool bb, undef, undef, undef, .slice a n c, .int .i64 n, .bool false, .slice a n c, .slice la nl lc, .tuple #[.slice oa ol oc, .bool bb], .slice la nl lc, .tuple #[.slice oa ol oc, .bool bb], .slice oa ol oc, .bool bb, undef, undef, undef, undef, undef, undef, undef, undef, undef, undef, undef, undef, undef, undef, undef, undef, undef, undef, undef, undef, undef, undef, undef, undef, undef, undef, undef, undef, undef, undef, undef, undef, undef, undef, undef, undef, undef, undef, undef, undef, undef, undef, undef, undef, undef, undef, undef, undef, undef, undef, undef, undef, undef, undef, undef, undef, undef, undef, undef, undef, undef, undef, undef, undef, undef, undef, undef, undef, undef], []⟩ w0 := by
  have K := specChecksOf_any la nl lc xs w0 hr hi hs hn
  rw [hR] at K
  clear hR
  simp only [c7_5, body7, Try.f7, Option.getD_some]
  go_wp2_with fail
  with_reducible refine K.mono ?_
  rintro e w1 ⟨wa, wc, rfl, hO, hb⟩
  clear K
  subst hol
  go_wp2
  exact ⟨rfl, rfl, BT.of hb, wa, wc, hO, rfl⟩

def Q7_6 (a la oa wa : Option Addr) (n c nl lc ol oc wc : Nat) (bb : Bool) (w0 : World) (b : Bool) (T : Array Value) (w' : World) : Prop :=
  BT w0 w' ∧ ((b = true ∧ bb = false ∧ T.getD 2 undef = .bool true) ∨ (b = false ∧ bb = true ∧ ∃ x24 x25 x26 x27 x28 x29 x30 x31 x32 x33 x34 x35 x36 x37 x38 x39 x40 x41 x42 x43 x44 : Value, T = #[.slice a n c, undef, .bool false, .slice la nl lc, .slice oa ol oc, .bool bb, .slice wa ol wc, .bool bb, undef, .slice a n c, .int .i64 n, .bool false, .slice a n c, .slice la nl lc, .tuple #[.slice oa ol oc, .bool bb], .slice la nl lc, .tuple #[.slice oa ol oc, .bool bb], .slice oa ol oc, .bool bb, .tuple #[.slice wa ol wc, .bool bb], .slice la nl lc, .tuple #[.slice wa ol wc, .bool bb], .slice wa ol wc, .bool bb, x24, x25, x26, x27, x28, x29, x30, x31, x32, x33, x34, x35, x36, x37, x38, x39, x40, x41, x42, x43, x44, undef, undef, undef, undef, undef, undef, undef, undef, undef, undef, undef, undef, undef, undef, undef, undef, undef, undef, undef, undef, undef, undef, undef, undef, undef, undef, undef, undef, undef, undef, undef, undef, undef, undef, undef, undef, undef, undef, undef, undef, undef, undef, undef]))

set_option maxRecDepth 100000 in
set_option maxHeartbeats 1000000 in
theorem if7_wp (hr : RdX w0 oa ol LL) (hr' : RdX w0 wa ol LL) (hw : WfX LL) (hn : ol ≤ 4611686018427387904) :
    c7_6.wp Try.prog (QW (Q7_6 a la oa wa n c nl lc ol oc wc bb w0)) ⟨#[.slice a n c, undef, .bool false, .slice la nl lc, .slice oa ol oc, .bool bb, .slice wa ol wc, .bool bb, undef, .slice a n c, .int .i64 n, .bool false, .slice a n c, .slice la nl lc, .tuple #[.slice oa ol oc, .bool bb], .slice la nl lc, .tuple #[.slice oa ol oc, .bool bb], .slice oa ol oc, .bool bb, .tuple #[.slice wa ol wc, .bool bb], .slice la nl lc, .tuple #[.slice wa ol wc, .bool bb], .slice wa ol wc, .bool bb, undef, undef, undef, undef, undef, undef, undef, undef, undef, undef, undef, undef, undef, undef, undef, undef, undef, undef, undef, undef, undef, undef, undef, undef, undef, undef, undef, undef, undef, undef, undef, undef, undef, undef, undef, undef, undef, undef, undef, undef, undef, undef, undef, undef, undef, undef, undef, undef, undef, undef, undef, undef, undef, undef, undef, undef, undef, undef, undef, undef, undef, undef, undef, undef], []⟩ w0 := by
  have K := fun q => sameChecks_any oa wa ol ol oc wc LL LL (w0.drewN q) (hr.drewN q) (hr'.drewN q) hw hw hn hn
  have K0 := sameChecks_any oa wa ol ol oc wc LL LL w0 hr hr' hw hw hn hn
  rw [show eqX LL LL = true by simp [eqX]] at K K0
  have hb := Below.refl w0.heap.size w0
  simp only [c7_6, body7, Try.f7, Option.getD_some]
  cases bb with
  | true =>
    go_wp2_with fail
    with_reducible refine K0.mono ?_
    rintro e w1 ⟨rfl, m, rfl⟩
    clear K K0
    go_wp2
    exact ⟨rfl, ⟨rfl, rfl, Nat.le_refl _, fun _ _ => rfl⟩, .inr ⟨rfl, rfl, _, _, _, _, _, _, _, _, _, _, _, _, _, _, _, _, _, _, _, _, _, rfl⟩⟩
  | false =>
    go_wp2_with fail
    with_reducible refine K0.mono ?_
    rintro e w1 ⟨rfl, m, rfl⟩
    go_wp2_with fail
    with_reducible refine (K m).mono ?_
    rintro e w1 ⟨rfl, m', rfl⟩
    clear K K0
    go_wp2
    exact ⟨rfl, ⟨rfl, rfl, Nat.le_refl _, fun _ _ => rfl⟩, .inl ⟨rfl, rfl, rfl⟩⟩
theorem sums_at {xs : List HV} (hv : storeV (valsH xs) = true) {k : Nat} {x : HV} (hx : xs[k]? = some x) : (sumsL (valsH xs)).getD k (0, 0) = (x.id, blockSum x.zs) := by
  have h := valsH_get hx
  have hb := (store_ok hv h).2.1
  have e : blockSum x.zs = sumL x.zs := by simp [blockSum, show blockV x.zs = true from hb]
  rw [e]
  simp [sumsL, List.getD, List.getElem?_map, h, HV.val]

def Q7_7 (la oa : Option Addr) (nl lc ol oc : Nat) (w0 : World) (b : Bool) (T : Array Value) (w' : World) : Prop :=
  b = false ∧ BT w0 w' ∧ ∃ y0 y1 y2 y5 y6 y7 y8 y9 y10 y11 y12 y13 y14 y15 y16 y17 y18 y19 y20 y21 y22 y23 y24 y25 y26 y27 y28 y29 y30 y31 y32 y33 y34 y35 y36 y37 y38 y39 y40 y41 y42 y43 y44 y45 y46 y47 y48 y49 y50 y51 y52 y53 y54 y55 y56 y57 y58 y59 y60 y61 y62 y63 y64 y65 y66 y67 y68 y69 y70 y71 y72 y73 y74 y75 y76 y77 y78 y79 y80 y81 y82 y83 y84 y85 y86 y87 : Value, T = #[y0, y1, y2, .slice la nl lc, .slice oa ol oc, y5, y6, y7, y8, y9, y10, y11, y12, y13, y14, y15, y16, y17, y18, y19, y20, y21, y22, y23, y24, y25, y26, y27, y28, y29, y30, y31, y32, y33, y34, y35, y36, y37, y38, y39, y40, y41, y42, y43, y44, y45, y46, y47, y48, y49, y50, y51, y52, y53, y54, y55, y56, y57, y58, y59, y60, y61, y62, y63, y64, y65, y66, y67, y68, y69, y70, y71, y72, y73, y74, y75, y76, y77, y78, y79, y80, y81, y82, y83, y84, y85, y86, y87]

set_option maxRecDepth 100000 in
set_option maxHeartbeats 1000000 in
theorem loop7_wp {y0 y1 y2 y5 y6 y7 y8 y9 y10 y11 y12 y13 y14 y15 y16 y17 y18 y19 y20 y21 y22 y23 y24 y25 y26 y27 y28 y29 y30 y31 y32 y33 y34 y35 y36 y37 y38 y39 y40 y41 y42 y43 y44 y45 y46 y47 y48 y49 y50 y51 y52 y53 y54 y55 y56 y57 y58 y59 y60 y61 y62 y63 y64 y65 y66 y67 y68 y69 y70 y71 y72 y73 y74 y75 y76 y77 y78 y79 y80 y81 y82 y83 y84 y85 y86 y87 : Value} (hr : RdX w0 oa ol LL) (hw : WfX LL) (hx : RdR eltH w0 la nl xs) (hi : InH w0 xs) (hs : ∀ x ∈ xs, x.zs.length ≤ 8) (hv : storeV (valsH xs) = true) (hL : LL = sumsL (valsH xs)) (hol : ol = nl) (hn : nl ≤ 1048576) :
    c7_7.wp Try.prog (QW (Q7_7 la oa nl lc ol oc w0)) ⟨#[y0, y1, y2, .slice la nl lc, .slice oa ol oc, y5, y6, y7, y8, y9, y10, y11, y12, y13, y14, y15, y16, y17, y18, y19, y20, y21, y22, y23, y24, y25, y26, y27, y28, y29, y30, y31, y32, y33, y34, y35, y36, y37, y38, y39, y40, y41, y42, y43, y44, y45, y46, y47, y48, y49, y50, y51, y52, y53, y54, y55, y56, y57, y58, y59, y60, y61, y62, y63, y64, y65, y66, y67, y68, y69, y70, y71, y72, y73, y74, y75, y76, y77, y78, y79, y80, y81, y82, y83, y84, y85, y86, y87], []⟩ w0 := by
  have HI := Lib.hid hi
  have HS := Lib.hid hs
  have HV' := Lib.hid hv
  have HL := Lib.hid hL
  have HW := Lib.hid hw
  have HR := Lib.hid hr
  have HX := Lib.hid hx
  subst hol
  clear hi hs hv hL hw hr hx
  simp only [c7_7, body7, Try.f7, Option.getD_some]
  go_wp2
  go_loopw [8] (fun i wr => ∃ k : Nat, k ≤ ol ∧ i = .int .i64 k ∧ ∃ m, wr = w0.drewN m)
    (fun i _ => ol - (intOf i).toNat)
  case atStart => exact ⟨0, Nat.zero_le _, rfl, 0, rfl⟩
  case round =>
    obtain ⟨k, hk, rfl, q, rfl⟩ := hrel
    by_cases hlt : k < ol
    · have HR1 : RdX (w0.drewN q) oa ol LL := HR.out
      have HX1 : RdR eltH (w0.drewN q) la ol xs := HX.out
      have HI1 : InH (w0.drewN q) xs := HI.out
      have hq : ∃ q', w0.drewN q = w0.drewN q' := ⟨q, rfl⟩
      generalize w0.drewN q = wq at HR1 HX1 HI1 hq ⊢
      have HQ := Lib.hid hq
      clear hq
      obtain ⟨b, off, rfl, hbl, f, m, hfm, cf, cm, hf, hm0, hm1⟩ := HR1.at_ HW.out hlt
      obtain ⟨b', off', x, rfl, hbl', hxk, d0, d1, d2⟩ := atH HX1 hlt
      have hfm' := hfm
      rw [HL.out, sums_at HV'.out hxk] at hfm'
      injection hfm' with h1 h2
      have hrx := HI1 x (List.mem_of_getElem? hxk)
      have hsx := HS.out x (List.mem_of_getElem? hxk)
      have K2 := fun j => still_of (implBlockSum_any x.ad x.zs.length x.cp x.zs (wq.drewN j) hrx (by omega))
      rw [h2] at K2
      rw [h1] at d0
      clear hfm h1 h2 hxk d2 hrx HR1 HX1 HI1
      have t1 : (f != f) = false := by simp
      have t2 : (m != m) = false := by simp
      have t3 : (f == f) = true := by simp
      have t4 : (m == m) = true := by simp
      have hk0 : (0 : Int) ≤ (k : Int) := by omega
      have hk1 : (k : Int) < (ol : Int) := by omega
      go_wp2
      go_quiet ((go_at_call 30; exact Calls.quiet_of_same (K2 _)))
      go_wp2
      go_roundw
      case rel => obtain ⟨q', hq'⟩ := HQ.out; exact ⟨k + 1, by omega, by go_num, q' + _, by rw [hq', World.drewN_drewN]⟩
      case measure => simp [intOf]; omega
    · obtain rfl : k = ol := by omega
      go_wp2
      exact ⟨rfl, rfl, ⟨rfl, rfl, Nat.le_refl _, fun _ _ => rfl⟩, _, _, _, _, _, _, _, _, _, _, _, _, _, _, _, _, _, _, _, _, _, _, _, _, _, _, _, _, _, _, _, _, _, _, _, _, _, _, _, _, _, _, _, _, _, _, _, _, _, _, _, _, _, _, _, _, _, _, _, _, _, _, _, _, _, _, _, _, _, _, _, _, _, _, _, _, _, _, _, _, _, _, _, _, _, _, rfl⟩
end
end Go.Proofs.Ytajheicheefpeaa

/- The run of FnChecks. -/
namespace Go.Proofs.Ytajheicheefpeaa
open Go.Proofs
open Go.Conc Go.RowKit
open Go.ConcR (KK wgBlock WgAt stA smA DC0)
open Go.Conc.Lib Go.ConcR.Gen Go.ConcN.Gen
set_option linter.unusedSimpArgs false
set_option linter.unusedVariables false

noncomputable def c7_1 : Code := match body7 with | .seq x _ => x | _ => .skip
noncomputable def c7_2 : Code := match body7 with | .seq _ (.seq x _) => x | _ => .skip

theorem badR_sums {xs : List HV} (hv : storeV (valsH xs) = true) : badR (valsH xs) (sumsL (valsH xs)) = [] := by
  unfold badR
  split
  · unfold badI
    rw [List.filterMap_eq_nil_iff]
    intro j hj
    have hj' : j < (sumsL (valsH xs)).length := List.mem_range.1 hj
    have hjl : j < xs.length := by simpa [sumsL, valsH] using hj'
    have hx : xs[j]? = some xs[j] := List.getElem?_eq_getElem hjl
    have hvx := valsH_get hx
    have hb := (store_ok hv hvx).2.1
    have hid := (store_ids hv hx).2
    have hat : atV (valsH xs) xs[j].id = some xs[j].val := atV_some hvx rfl (fun i u hi hu => by
      have hil : i < xs.length := by omega
      have hxi : xs[i]? = some xs[i] := List.getElem?_eq_getElem hil
      have e := valsH_get hxi
      rw [hu] at e
      injection e with e
      subst e
      exact hid i _ hi hxi)
    have e1 : (sumsL (valsH xs))[j]? = some (xs[j].id, sumL xs[j].zs) := by
      simp [sumsL, List.getElem?_map, hvx, HV.val]
    have e2 : badC (valsH xs) (xs[j].id, sumL xs[j].zs) = false := by
      unfold badC
      rw [hat]
      have e : blockSum xs[j].zs = sumL xs[j].zs := by simp [blockSum, show blockV xs[j].zs = true from hb]
      simp [HV.val, e]
    simp [List.getD, List.getElem?_map, e1, e2]
  · rfl

theorem empty_cell {W w0 : World} (hS : Sim (fun _ => False) w0 W) {p : Addr} {v : Value} (h : W.cell? p = some v) : w0.cell? p = some v := by
  have hs := hS.same p.block (fun h => h)
  unfold World.cell? at h ⊢
  rw [hs]
  cases hb : W.heap[p.block]? with
  | none => rw [hb] at h; cases h
  | some o =>
    rw [hb] at h
    cases o <;> first | exact h | cases h

theorem empty_rdc {W w0 : World} (hS : Sim (fun _ => False) w0 W) {a : Option Addr} {n : Nat} (h : RdC W a n) : RdC w0 a n := by
  intro i hi
  obtain ⟨b, off, rfl, hlt, hc⟩ := h i hi
  exact ⟨b, off, rfl, by rw [hS.size]; exact hlt, fun j hj => by obtain ⟨y, h1, h2, h3⟩ := hc j hj; exact ⟨y, h1, h2, empty_cell hS h3⟩⟩

/-- What stood in the beginning stands in the end. -/
theorem bt_final {F' : Bks} {W wf w0 w0f : World} (hS : Sim (fun _ => False) w0 W) (hS' : Sim F' w0f wf) (hB : BT w0 w0f) (hst : Stay W wf) (hF : ∀ b, b < W.heap.size → ¬ F' b) : BT W wf := by
  refine ⟨by rw [← hS'.os, hB.os, hS.os], by rw [← hS'.output, hB.output, hS.output], hst.size, fun b hb => ?_⟩
  have h1 := hB.block b (by rw [hS.size]; exact hb)
  rw [hS.same b (fun h => h), hS'.same b (hF b hb)] at h1
  have hb' : b < wf.heap.size := Nat.lt_of_lt_of_le hb hst.size
  obtain ⟨o, ho⟩ : ∃ o, W.heap[b]? = some o := ⟨_, Array.getElem?_eq_getElem hb⟩
  obtain ⟨o', ho'⟩ : ∃ o', wf.heap[b]? = some o' := ⟨_, Array.getElem?_eq_getElem hb'⟩
  rw [ho, ho'] at h1 ⊢
  have h2 : inert o' = inert o := by simpa using h1
  by_cases hp : pendObj o = true
  · cases o with
    | pending c e =>
      rcases hst.pend b c e ho with h | ⟨es, m, h⟩
      · rw [← ho', h]
      · rw [ho'] at h
        cases h
        simp [inert] at h2
    | _ => cases hp
  · by_cases hp' : pendObj o' = true
    · cases o' with
      | pending c e =>
        have := hst.back b c e hb ho'
        rw [ho] at this
        cases this
        exact absurd rfl hp
      | _ => cases hp'
    · have e1 : inert o = o := by cases o <;> first | rfl | exact absurd rfl hp
      have e2 : inert o' = o' := by cases o' <;> first | rfl | exact absurd rfl hp'
      rw [e1, e2] at h2
      rw [h2]

def Q7_1 (a : Option Addr) (n c : Nat) (w0 : World) (b : Bool) (T : Array Value) (w' : World) : Prop := b = false ∧ BT w0 w' ∧ T = #[.slice a n c, undef, .bool false, undef, undef, undef, undef, undef, undef, undef, undef, undef, undef, undef, undef, undef, undef, undef, undef, undef, undef, undef, undef, undef, undef, undef, undef, undef, undef, undef, undef, undef, undef, undef, undef, undef, undef, undef, undef, undef, undef, undef, undef, undef, undef, undef, undef, undef, undef, undef, undef, undef, undef, undef, undef, undef, undef, undef, undef, undef, undef, undef, undef, undef, undef, undef, undef, undef, undef, undef, undef, undef, undef, undef, undef, undef, undef, undef, undef, undef, undef, undef, undef, undef, undef, undef, undef, undef]
def Q7_2 (a : Option Addr) (n c : Nat) (w0 : World) (b : Bool) (T : Array Value) (w' : World) : Prop :=
  BT w0 w' ∧ ((b = true ∧ T.getD 2 undef = .bool true) ∨ (b = false ∧ n ≤ 1048576 ∧ T = #[.slice a n c, undef, .bool false, undef, undef, undef, undef, undef, undef, .slice a n c, .int .i64 n, .bool false, undef, undef, undef, undef, undef, undef, undef, undef, undef, undef, undef, undef, undef, undef, undef, undef, undef, undef, undef, undef, undef, undef, undef, undef, undef, undef, undef, undef, undef, undef, undef, undef, undef, undef, undef, undef, undef, undef, undef, undef, undef, undef, undef, undef, undef, undef, undef, undef, undef, undef, undef, undef, undef, undef, undef, undef, undef, undef, undef, undef, undef, undef, undef, undef, undef, undef, undef, undef, undef, undef, undef, undef, undef, undef, undef, undef]))

section
variable {a : Option Addr} {n c : Nat} {w0 : World}
set_option maxRecDepth 100000 in
set_option maxHeartbeats 1000000 in
theorem one7_wp : c7_1.wp Try.prog (QW (Q7_1 a n c w0)) ⟨#[.slice a n c, undef, undef, undef, undef, undef, undef, undef, undef, undef, undef, undef, undef, undef, undef, undef, undef, undef, undef, undef, undef, undef, undef, undef, undef, undef, undef, undef, undef, undef, undef, undef, undef, undef, undef, undef, undef, undef, undef, undef, undef, undef, undef, undef, undef, undef, undef, undef, undef, undef, undef, undef, undef, undef, undef, undef, undef, undef, undef, undef, undef, undef, undef, undef, undef, undef, undef, undef, undef, undef, undef, undef, undef, undef, undef, undef, undef, undef, undef, undef, undef, undef, undef, undef, undef, undef, undef, undef], []⟩ w0 := by
  simp only [c7_1, body7, Try.f7, Option.getD_some]
  go_wp2
  exact ⟨rfl, rfl, ⟨rfl, rfl, Nat.le_refl _, fun _ _ => rfl⟩, rfl⟩

set_option maxRecDepth 100000 in
set_option maxHeartbeats 1000000 in
theorem two7_wp : c7_2.wp Try.prog (QW (Q7_2 a n c w0)) ⟨#[.slice a n c, undef, .bool false, undef, undef, undef, undef, undef, undef, undef, undef, undef, undef, undef, undef, undef, undef, undef, undef, undef, undef, undef, undef, undef, undef, undef, undef, undef, undef, undef, undef, undef, undef, undef, undef, undef, undef, undef, undef, undef, undef, undef, undef, undef, undef, undef, undef, undef, undef, undef, undef, undef, undef, undef, undef, undef, undef, undef, undef, undef, undef, undef, undef, undef, undef, undef, undef, undef, undef, undef, undef, undef, undef, undef, undef, undef, undef, undef, undef, undef, undef, undef, undef, undef, undef, undef, undef, undef], []⟩ w0 := by
  simp only [c7_2, body7, Try.f7, Option.getD_some]
  by_cases h : n ≤ 1048576
  · have h1 : ¬ (1048576 : Int) < (n : Int) := by omega
    go_wp2
    exact ⟨rfl, ⟨rfl, rfl, Nat.le_refl _, fun _ _ => rfl⟩, .inr ⟨rfl, h, rfl⟩⟩
  · have h1 : (1048576 : Int) < (n : Int) := by omega
    go_wp2
    exact ⟨rfl, ⟨rfl, rfl, Nat.le_refl _, fun _ _ => rfl⟩, .inl ⟨rfl, rfl⟩⟩
end

/-- How it ends. -/
def PostL (W : World) (v : Value) (W' : World) : Prop := v = .bool true ∧ BT W W'

set_option maxRecDepth 100000 in
theorem ok_true {F : Bks} {p : Nat} {W w : World} {T : Array Value} {todo : List Item} (h : BT W w) (hT : T.getD 2 undef = .bool true) :
    Ok Try.prog F p (PostL W) (G { (base 7).at ⟨T, []⟩ todo with mode := .returning } []) w := by
  refine ok_end (n := 0) (D := fun _ _ _ => False) (fun _ _ _ h => h.elim) ?_
  refine fun w₁ r₁ => ?_
  obtain ⟨d, rfl⟩ := r₁
  refine ⟨rfl, .bool true, #[], ?_, by simp, rfl, ⟨h.os, h.output, h.size, h.block⟩⟩
  have hr : (results Try.f7 T).run Try.prog (w.at d) = .ok (.bool true) (w.at d) := by rw [results_tmp rfl, hT]
  have he : (results Try.f7 T).events Try.prog (w.at d) #[] = #[] := events_results_tmp rfl _ _
  simp [G, stepG, Frame.at, base, unwind, doReturn, hr, he, seen, GStep.after, Try.func7]

theorem BT.tape {w w' : World} (h : BT w w') (τ : TapeT) (d : Nat) : BT w (Go.Proofs.Ytajheicheefpeaa.onT w' τ d) := ⟨h.os, h.output, h.size, h.block⟩
theorem BT.untape {w w' : World} {τ : TapeT} {d : Nat} (h : BT (Go.Proofs.Ytajheicheefpeaa.onT w τ d) w') : BT w w' := ⟨h.os, h.output, h.size, h.block⟩
theorem Stay.atD {w w' : World} {d : Nat} (h : Stay (w.at d) w') : Stay w w' := ⟨h.size, h.pend, h.map, h.back⟩

set_option maxRecDepth 100000 in
set_option maxHeartbeats 4000000 in
theorem fnChecks_ok {a : Option Addr} {n c : Nat} {W : World} (hr : RdC W a n) (hc : n ≤ c) : Ok Try.prog (fun _ => False) 1 (PostL W) (G ((base 7).at ⟨#[.slice a n c, undef, undef, undef, undef, undef, undef, undef, undef, undef, undef, undef, undef, undef, undef, undef, undef, undef, undef, undef, undef, undef, undef, undef, undef, undef, undef, undef, undef, undef, undef, undef, undef, undef, undef, undef, undef, undef, undef, undef, undef, undef, undef, undef, undef, undef, undef, undef, undef, undef, undef, undef, undef, undef, undef, undef, undef, undef, undef, undef, undef, undef, undef, undef, undef, undef, undef, undef, undef, undef, undef, undef, undef, undef, undef, undef, undef, undef, undef, undef, undef, undef, undef, undef, undef, undef, undef, undef], []⟩ [.code body7]) []) W := by
  have T : Terms AtRel (DB fun _ => False) := termsB
  have hk : (base 7).kind ≠ .early := by decide
  obtain ⟨w0, hS, hNP, _, _⟩ := sim_make (fun _ => False) W (fun b h => h.elim)
  have hr0 : RdC w0 a n := empty_rdc hS hr
  -- simp only [List.size_toArray, List.length_cons, List.length_nil, Nat.reduceAdd, Nat.zero_add, List.range, List.range.loop]ION 0
  refine ok_goes (Stop := Ok Try.prog _ 1 (PostL W)) (fun _ _ h => h) (n := 1) (gt_seq T ?_)
  refine Goes.stop fun w₁ r₁ => ?_
  obtain ⟨d₁, rfl⟩ := r₁
  refine ok_code (K := kitC) bodiesC (ret := false) (Q := Q7_1 a n c w0) (fun b T w τ d h => ⟨h.1, h.2.1.tape _ _, h.2.2⟩) (by kernel_rfl) ⟨_, Try.func7⟩ hNP (hS.atD d₁) (fun τ d => ?_) (fun T' w1 W1 hq hS1 _ _ st1 => ?_) (fun T' todo w0' w' hq _ _ _ _ => by cases hq.1)
  · have h := one7_wp (a := a) (n := n) (c := c) (w0 := onT w0 τ d)
    exact wp_mono h fun e a w hq => qw_mono (fun b T w h => ⟨h.1, h.2.1.untape, h.2.2⟩) hq
  obtain ⟨_, hB1, rfl⟩ := hq
  have st1 := st1.atD
  -- THE LENGTH
  refine ok_goes (Stop := Ok Try.prog _ 1 (PostL W)) (fun _ _ h => h) (n := 1) (gt_seq T ?_)
  refine Goes.stop fun w₁ r₁ => ?_
  obtain ⟨d₁, rfl⟩ := r₁
  refine ok_code (K := kitC) bodiesC (ret := true) (Q := Q7_2 a n c w1) (fun b T w τ d h => ⟨h.1.tape _ _, h.2⟩) (by kernel_rfl) ⟨_, Try.func7⟩ hS1.noPend (hS1.atD d₁) (fun τ d => ?_) (fun T' w2 W2 hq hS2 _ _ st2 => ?_) (fun T' todo w2 W2 hq hS2 _ _ st2 => ?_)
  · have h := two7_wp (a := a) (n := n) (c := c) (w0 := onT w1 τ d)
    exact wp_mono h fun e a w hq => qw_mono (fun b T w h => ⟨h.1.untape, h.2⟩) hq
  rotate_left
  · obtain ⟨hB2, ⟨_, hT⟩ | ⟨hb, _⟩⟩ := hq
    · exact ok_true (bt_final hS hS2 (hB1.trans hB2) (st1.trans st2.atD) (fun b _ h => h)) hT
    · cases hb
  obtain ⟨hB2, ⟨hb, _⟩ | ⟨_, hn, rfl⟩⟩ := hq
  · cases hb
  have hB2 := hB1.trans hB2
  have st2 := st1.trans st2.atD
  -- THE DRAW
  have hr2 : RdC w2 a n := by have h := hr0.below hB2.below; exact h
  refine ok_goes (Stop := Ok Try.prog _ 1 (PostL W)) (fun _ _ h => h) (n := 1) (gt_seq T ?_)
  refine Goes.stop fun w₁ r₁ => ?_
  obtain ⟨d₁, rfl⟩ := r₁
  refine ok_code (K := kitC) bodiesC (ret := false) (Q := Q7_3 a n c w2) (fun b T w τ d h => ⟨h.1, h.2.1.tape _ _, h.2.2⟩) (by kernel_rfl) ⟨_, Try.func7⟩ hS2.noPend (hS2.atD d₁) (fun τ d => ?_) (fun T' w3 W3 hq hS3 _ _ st3 => ?_) (fun T' todo w0' w' hq _ _ _ _ => by cases hq.1)
  · have h := draw7_wp (a := a) (n := n) (c := c) (w0 := onT w2 τ d) hr2 hc hn
    exact wp_mono h fun e a w hq => qw_mono (fun b T w h => ⟨h.1, h.2.1.untape, h.2.2⟩) hq
  obtain ⟨_, hB3, xs, la, lc, hx16, hx8, hO3, hi3, nl, hnl, rfl⟩ := hq
  have hB3 := hB2.trans hB3
  have st3 := st2.trans st3.atD
  have hx3 : RdR eltH w3 la nl xs := by rw [hnl]; exact hO3.rd
  have hcap := hO3.cap
  rw [← hnl] at hcap
  unfold maxLen at hcap
  have hs8 : ∀ x ∈ xs, x.zs.length ≤ 4611686018427387904 := fun x hx => by have := hx8 x hx; omega
  obtain ⟨LL, hLL⟩ : ∃ LL, (checksR (valsH xs)).1 = LL := ⟨_, rfl⟩
  obtain ⟨bb, hbb⟩ : ∃ bb, (checksR (valsH xs)).2 = bb := ⟨_, rfl⟩
  have hR : checksR (valsH xs) = (LL, bb) := by rw [← hLL, ← hbb]
  clear hLL hbb
  -- THE CHECKS
  refine ok_goes (Stop := Ok Try.prog _ 1 (PostL W)) (fun _ _ h => h) (n := 1) (gt_seq T ?_)
  refine Goes.stop fun w₁ r₁ => ?_
  obtain ⟨d₁, rfl⟩ := r₁
  refine ok_code (K := kitC) bodiesC (ret := false) (Q := Q7_4 a la n c nl lc LL bb w3) (fun b T w τ d h => ⟨h.1, h.2.1.tape _ _, h.2.2⟩) (by kernel_rfl) ⟨_, Try.func7⟩ hS3.noPend (hS3.atD d₁) (fun τ d => ?_) (fun T' w4 W4 hq hS4 _ _ st4 => ?_) (fun T' todo w0' w' hq _ _ _ _ => by cases hq.1)
  · have h := of7_wp (a := a) (la := la) (n := n) (c := c) (nl := nl) (lc := lc) (LL := LL) (bb := bb) (w0 := onT w3 τ d) (xs := xs) hx3 hi3 hs8 hcap.1 (by omega) hR
    exact wp_mono h fun e a w hq => qw_mono (fun b T w h => ⟨h.1, h.2.1.untape, h.2.2⟩) hq
  obtain ⟨_, hb4, oa, oc, hO4, ol, hol, rfl⟩ := hq
  have hB4 := hB3.trans hb4
  have st4 := st3.trans st4.atD
  have hx4 : RdR eltH w4 la nl xs := by have h := hx3.below hb4.below; exact h
  have hi4 : InH w4 xs := by have h := hi3.below hb4.below; exact h
  -- THE SAME BY THE SPECIFICATION
  refine ok_goes (Stop := Ok Try.prog _ 1 (PostL W)) (fun _ _ h => h) (n := 1) (gt_seq T ?_)
  refine Goes.stop fun w₁ r₁ => ?_
  obtain ⟨d₁, rfl⟩ := r₁
  refine ok_code (K := kitC) bodiesC (ret := false) (Q := Q7_5 a la oa n c nl lc ol oc LL bb w4) (fun b T w τ d h => ⟨h.1, h.2.1.tape _ _, h.2.2⟩) (by kernel_rfl) ⟨_, Try.func7⟩ hS4.noPend (hS4.atD d₁) (fun τ d => ?_) (fun T' w5 W5 hq hS5 _ _ st5 => ?_) (fun T' todo w0' w' hq _ _ _ _ => by cases hq.1)
  · have h := spec7_wp (a := a) (la := la) (oa := oa) (n := n) (c := c) (nl := nl) (lc := lc) (ol := ol) (oc := oc) (LL := LL) (bb := bb) (w0 := onT w4 τ d) (xs := xs) hx4 hi4 hs8 (by omega) hR hol
    exact wp_mono h fun e a w hq => qw_mono (fun b T w h => ⟨h.1, h.2.1.untape, h.2.2⟩) hq
  obtain ⟨_, hb5, wa, wc, hO5, rfl⟩ := hq
  have hB5 := hB4.trans hb5
  have st5 := st4.trans st5.atD
  have hx5 : RdR eltH w5 la nl xs := by have h := hx4.below hb5.below; exact h
  have hi5 : InH w5 xs := by have h := hi4.below hb5.below; exact h
  have ho5 : RdX w5 oa ol LL := by rw [hol]; have h := hO4.rd.below hb5.below; exact h
  have hW5 : RdX w5 wa ol LL := by rw [hol]; exact hO5.rd
  have hwf : WfX LL := hO4.wf
  have hol16 : ol ≤ 16 := by
    rw [hol]
    unfold checksR at hR
    split at hR
    · have e : sumsL (valsH xs) = LL := congrArg Prod.fst hR
      rw [← e]; simpa [sumsL, valsH] using hx16
    · have e : ([] : List (Int × Int)) = LL := congrArg Prod.fst hR
      rw [← e]; simp
  generalize hwl : LL.length = wl at hol
  subst hol
  -- THE TWO ARE THE SAME
  refine ok_goes (Stop := Ok Try.prog _ 1 (PostL W)) (fun _ _ h => h) (n := 1) (gt_seq T ?_)
  refine Goes.stop fun w₁ r₁ => ?_
  obtain ⟨d₁, rfl⟩ := r₁
  refine ok_code (K := kitC) bodiesC (ret := true) (Q := Q7_6 a la oa wa n c nl lc ol oc wc bb w5) (fun b T w τ d h => ⟨h.1.tape _ _, h.2⟩) (by kernel_rfl) ⟨_, Try.func7⟩ hS5.noPend (hS5.atD d₁) (fun τ d => ?_) (fun T' w6 W6 hq hS6 _ _ st6 => ?_) (fun T' todo w6 W6 hq hS6 _ _ st6 => ?_)
  · have h := if7_wp (a := a) (la := la) (oa := oa) (wa := wa) (n := n) (c := c) (nl := nl) (lc := lc) (ol := ol) (oc := oc) (wc := wc) (LL := LL) (bb := bb) (w0 := onT w5 τ d) ho5 hW5 hwf (by omega)
    exact wp_mono h fun e a w hq => qw_mono (fun b T w h => ⟨h.1.untape, h.2⟩) hq
  rotate_left
  · obtain ⟨hB6, ⟨_, _, hT⟩ | ⟨hb, _⟩⟩ := hq
    · exact ok_true (bt_final hS hS6 (hB5.trans hB6) (st5.trans st6.atD) (fun b _ h => h)) hT
    · cases hb
  obtain ⟨hb6, ⟨hb, _⟩ | ⟨_, rfl, x24, x25, x26, x27, x28, x29, x30, x31, x32, x33, x34, x35, x36, x37, x38, x39, x40, x41, x42, x43, x44, rfl⟩⟩ := hq
  · cases hb
  have hB6 := hB5.trans hb6
  have st6 := st5.trans st6.atD
  obtain ⟨hv, hL⟩ : storeV (valsH xs) = true ∧ LL = sumsL (valsH xs) := by
    unfold checksR at hR
    split at hR
    · rename_i h
      exact ⟨h, (congrArg Prod.fst hR).symm⟩
    · cases congrArg Prod.snd hR
  have hll : LL.length = xs.length := by rw [hL]; simp [sumsL, valsH]
  obtain rfl : ol = nl := by omega
  have hx6 : RdR eltH w6 la ol xs := by have h := hx5.below hb6.below; exact h
  have hi6 : InH w6 xs := by have h := hi5.below hb6.below; exact h
  have ho6 : RdX w6 oa ol LL := by have h := ho5.below hb6.below; exact h
  -- EACH CHECK
  refine ok_goes (Stop := Ok Try.prog _ 1 (PostL W)) (fun _ _ h => h) (n := 1) (gt_seq T ?_)
  refine Goes.stop fun w₁ r₁ => ?_
  obtain ⟨d₁, rfl⟩ := r₁
  refine ok_code (K := kitC) bodiesC (ret := true) (Q := Q7_7 la oa ol lc ol oc w6) (fun b T w τ d h => ⟨h.1, h.2.1.tape _ _, h.2.2⟩) (by kernel_rfl) ⟨_, Try.func7⟩ hS6.noPend (hS6.atD d₁) (fun τ d => ?_) (fun T' w7 W7 hq hS7 _ _ st7 => ?_) (fun T' todo w0' w' hq _ _ _ _ => by cases hq.1)
  · exact wp_mono (loop7_wp (la := la) (oa := oa) (nl := ol) (lc := lc) (ol := ol) (oc := oc) (LL := LL) (xs := xs) (w0 := onT w6 τ d) ho6 hwf hx6 hi6 hx8 hv hL rfl (by omega)) fun e a w hq => qw_mono (fun b T w h => ⟨h.1, h.2.1.untape, h.2.2⟩) hq
  obtain ⟨_, hb7, y0, y1, y2, y5, y6, y7, y8, y9, y10, y11, y12, y13, y14, y15, y16, y17, y18, y19, y20, y21, y22, y23, y24, y25, y26, y27, y28, y29, y30, y31, y32, y33, y34, y35, y36, y37, y38, y39, y40, y41, y42, y43, y44, y45, y46, y47, y48, y49, y50, y51, y52, y53, y54, y55, y56, y57, y58, y59, y60, y61, y62, y63, y64, y65, y66, y67, y68, y69, y70, y71, y72, y73, y74, y75, y76, y77, y78, y79, y80, y81, y82, y83, y84, y85, y86, y87, rfl⟩ := hq
  have hB7 := hB6.trans hb7
  have st7 := st6.trans st7.atD
  have hx7 : RdR eltH w7 la ol xs := by have h := hx6.below hb7.below; exact h
  have hi7 : InH w7 xs := by have h := hi6.below hb7.below; exact h
  have ho7 : RdX w7 oa ol LL := by have h := ho6.below hb7.below; exact h
  have hbad := badR_sums hv
  rw [← hL] at hbad
  clear hnl hll hwl
  have eol : ((ol : Int) == (ol : Int)) = true := by simp
  -- THE CALL
  refine ok_goes (Stop := Ok Try.prog _ 1 (PostL W)) (fun _ _ h => h) (n := 30) ?_
  refine gt_seq T ?_
  refine gt_reg T ?_
  simp only [List.size_toArray, List.length_cons, List.length_nil, Nat.reduceAdd, Nat.zero_add, List.range, List.range.loop]
  refine gt_val T (.slice oa ol oc) rfl rfl hk (fun w₂ r₂ => ?_) ?_
  · refine ⟨run_of fun K hK => ?_, ?_⟩
    · go_simp; exact hK
    · rw [listed_nil (by simp [go_sem, *])]; exact T.idle _
  walk_nrm
  refine gt_val T (.int .i64 ol) rfl rfl hk (fun w₂ r₂ => ?_) ?_
  · refine ⟨run_of fun K hK => ?_, ?_⟩
    · go_simp; exact hK
    · rw [listed_nil (by simp [go_sem, *])]; exact T.idle _
  walk_nrm
  refine gt_val T (.slice la ol lc) rfl rfl hk (fun w₂ r₂ => ?_) ?_
  · refine ⟨run_of fun K hK => ?_, ?_⟩
    · go_simp; exact hK
    · rw [listed_nil (by simp [go_sem, *])]; exact T.idle _
  walk_nrm
  refine gt_val T (.int .i64 ol) rfl rfl hk (fun w₂ r₂ => ?_) ?_
  · refine ⟨run_of fun K hK => ?_, ?_⟩
    · go_simp; exact hK
    · rw [listed_nil (by simp [go_sem, *])]; exact T.idle _
  walk_nrm
  refine gt_val T (.bool true) rfl rfl hk (fun w₂ r₂ => ?_) ?_
  · refine ⟨run_of fun K hK => ?_, ?_⟩
    · go_simp; exact hK
    · rw [listed_nil (by simp [go_sem, *])]; exact T.idle _
  walk_nrm
  refine gt_val T (.bool true) rfl rfl hk (fun w₂ r₂ => ?_) ?_
  · refine ⟨run_of fun K hK => ?_, ?_⟩
    · go_simp; exact hK
    · rw [listed_nil (by simp [go_sem, *])]; exact T.idle _
  walk_nrm
  refine gt_val T (.slice la ol lc) rfl rfl hk (fun w₂ r₂ => ?_) ?_
  · refine ⟨run_of fun K hK => ?_, ?_⟩
    · go_simp; exact hK
    · rw [listed_nil (by simp [go_sem, *])]; exact T.idle _
  walk_nrm
  refine gt_val T (.slice oa ol oc) rfl rfl hk (fun w₂ r₂ => ?_) ?_
  · refine ⟨run_of fun K hK => ?_, ?_⟩
    · go_simp; exact hK
    · rw [listed_nil (by simp [go_sem, *])]; exact T.idle _
  walk_nrm
  refine Goes.stop fun w₁ r₁ => ?_
  obtain ⟨d₂, rfl⟩ := r₁
  refine ok_checksBad (w0 := w7) (la := la) (ka := oa) (nl := ol) (lc := lc) (n := ol) (cc := oc) (xs := xs) (chks := LL) rfl rfl hk rfl (by simp [Act.eval]) (by omega) (by omega) (hS7.atD d₂) (fun b h => h.elim) hx7 hi7 hs8 hcap.1 (by omega) ho7 hwf (by omega) ?_
  intro F' p' w8 W8 ra rc hS8 hF8 hb8 hO8 _ _ hFF st8
  rw [hbad]
  have st8 := st7.trans st8.atD
  have TW : Terms AtRel (DB F') := termsB
  refine ok_goes (Stop := Ok Try.prog F' p' (PostL W)) (fun _ _ h => h) (n := 20) ?_
  walk_nrm
  refine gt_val TW (.int .i64 0) rfl rfl hk (fun w₂ r₂ => ?_) ?_
  · refine ⟨run_of fun K hK => ?_, ?_⟩
    · go_simp; exact hK
    · rw [listed_nil (by simp [go_sem, *])]; exact TW.idle _
  walk_nrm
  refine gt_val TW (.bool true) rfl rfl hk (fun w₂ r₂ => ?_) ?_
  · refine ⟨run_of fun K hK => ?_, ?_⟩
    · go_simp; exact hK
    · rw [listed_nil (by simp [go_sem, *])]; exact TW.idle _
  walk_nrm
  refine gt_val TW (.bool true) rfl rfl hk (fun w₂ r₂ => ?_) ?_
  · refine ⟨run_of fun K hK => ?_, ?_⟩
    · go_simp; exact hK
    · rw [listed_nil (by simp [go_sem, *])]; exact TW.idle _
  walk_nrm
  refine gt_val TW (.bool true) rfl rfl hk (fun w₂ r₂ => ?_) ?_
  · refine ⟨run_of fun K hK => ?_, ?_⟩
    · go_simp; exact hK
    · rw [listed_nil (by simp [go_sem, *])]; exact TW.idle _
  walk_nrm
  refine gt_end TW ?_
  refine gt_ret TW ?_
  refine Goes.stop fun w₁ r₁ => ?_
  obtain ⟨d₃, rfl⟩ := r₁
  have hB8 : BT w0 w8 := hB7.trans (BT.of hb8)
  refine ok_true (bt_final hS (hS8.atD d₃) hB8 ⟨st8.size, st8.pend, st8.map, st8.back⟩ (fun b hb h => ?_)) rfl
  exact (hFF b (by have := st7.size; show b < W7.heap.size; omega)).1 h

theorem enter7 (v : Value) : Frame.enter Try.prog 7 #[v] .normal = (base 7).at ⟨#[v, undef, undef, undef, undef, undef, undef, undef, undef, undef, undef, undef, undef, undef, undef, undef, undef, undef, undef, undef, undef, undef, undef, undef, undef, undef, undef, undef, undef, undef, undef, undef, undef, undef, undef, undef, undef, undef, undef, undef, undef, undef, undef, undef, undef, undef, undef, undef, undef, undef, undef, undef, undef, undef, undef, undef, undef, undef, undef, undef, undef, undef, undef, undef, undef, undef, undef, undef, undef, undef, undef, undef, undef, undef, undef, undef, undef, undef, undef, undef, undef, undef, undef, undef, undef, undef, undef, undef], []⟩ [.code body7] := by
  simp [Frame.enter, Try.func7, Try.f7, body7, base, Frame.at, Array.replicate_succ]

theorem fnChecks_ends {a : Option Addr} {n c : Nat} {W : World} (hr : RdC W a n) (hc : n ≤ c) : Ends Try.prog (PostL W) (solo (G (Frame.enter Try.prog 7 #[.slice a n c] .normal) []) W) #[] := by
  rw [solo_eq_crowd, enter7]
  exact fnChecks_ok hr hc #[_] none #[] (fun _ => 0) rfl rfl (leavers_one _ _) (trc_nil _)
end Go.Proofs.Ytajheicheefpeaa
