/- Contracts of the reader of a code: l6Open makes it, pick draws a number from 0 to n-1. -/
import Derived.Test.YtdjpaibjelfhnaaBase
import Derived.BigQuiet
import Derived.Deep.QuietTactic
import Derived.Outline
namespace Go.Proofs.Ytdjpaibjelfhnaa
open Go.RowKit

/-- The first n cells from a on are bytes, in blocks below B. -/
def RdB (w : World) (B : Nat) (a : Option Addr) (n : Nat) : Prop :=
  ∀ i, i < n → ∃ b off, a = some ⟨b, off, none⟩ ∧ b < B ∧ ∀ j, j < n → ∃ y : Int, 0 ≤ y ∧ y ≤ 255 ∧ w.cell? ⟨b, off + j, none⟩ = some (.int .u8 y)

/-- Block g is a reader that has read p numbers; its bytes lie below B. -/
def Rdr (w : World) (B g : Nat) (p : Int) : Prop :=
  B ≤ g ∧ 0 ≤ p ∧ ∃ a n c, n ≤ 2000 ∧ w.heap[g]? = some (.cells #[.slice a n c, .int .i64 p] 74 (0, 0)) ∧ RdB w B a n

/-- A number below n was drawn; only the reader has changed. -/
def Picked (w : World) (B g : Nat) (p n : Int) (e : Ending) (w' : World) : Prop :=
  ∃ x : Int, e = .returned (.int .i64 x) ∧ 0 ≤ x ∧ (1 ≤ n → x < n) ∧ Rdr w' B g (p + 1) ∧ w.grownBy w' (some g)

theorem grownBy_drewN {w w' : World} {row : Option Nat} (h : w.grownBy w' row) (k : Nat) : w.grownBy (w'.drewN k) row := ⟨h.os, h.tape, h.output, h.size, h.block⟩
theorem Rdr.drewN {w : World} {B g : Nat} {p : Int} (h : Rdr w B g p) (k : Nat) : Rdr (w.drewN k) B g p := h

theorem Rdr.set {w : World} {B g : Nat} {p : Int} (h : Rdr w B g p) (q : Int) (hq : 0 ≤ q) : Rdr (w.setCell ⟨g, 1, none⟩ (.int .i64 q)) B g q ∧ w.grownBy (w.setCell ⟨g, 1, none⟩ (.int .i64 q)) (some g) := by
  obtain ⟨hB, h0, a, n, c, hn, hh, hb⟩ := h
  refine ⟨⟨hB, hq, a, n, c, hn, ?_, ?_⟩, ⟨rfl, rfl, rfl, by simp [World.setCell], fun k _ hk => Below.heap_setCell _ _ _ _ (fun e => hk (by rw [e]))⟩⟩
  · exact heap_setCell_same w g 1 _ _ _ hh
  · intro i hi
    obtain ⟨b, off, rfl, hlt, hc⟩ := hb i hi
    refine ⟨b, off, rfl, hlt, fun j hj => ?_⟩
    obtain ⟨y, h1, h2, h3⟩ := hc j hj
    exact ⟨y, h1, h2, (World.cell?_setCell_other w ⟨g, 1, none⟩ ⟨b, off + j, none⟩ _ (fun e => by injection e; omega)).trans h3⟩

theorem ofInt_i64 (a : Nat) (ha : a < 9223372036854775808) : (BitVec.ofInt 64 (a : Int)).toNat = a := by
  rw [BitVec.ofInt_natCast, BitVec.toNat_ofNat]; exact Nat.mod_eq_of_lt (by omega)

theorem xor_bd (x : Int) (h0 : 0 ≤ x) (h1 : x < 9223372036854775808) : 0 ≤ bits .xor .i64 x (x / 64) := by
  obtain ⟨a, rfl⟩ := Int.eq_ofNat_of_zero_le h0
  have hx : a ^^^ (a / 64) < 2 ^ 63 := Nat.xor_lt_two_pow (by omega) (by omega)
  have : bits .xor .i64 (a : Int) ((a : Int) / 64) = ((a ^^^ (a / 64) : Nat) : Int) := by
    rw [show (a : Int) / 64 = ((a / 64 : Nat) : Int) by omega]
    show IntKind.i64.wrap ((BitVec.ofInt 64 (a : Int) ^^^ BitVec.ofInt 64 ((a / 64 : Nat) : Int)).toNat : Int) = _
    rw [BitVec.toNat_xor, ofInt_i64 a (by omega), ofInt_i64 (a / 64) (by omega), IntKind.wrap_i64]
    omega
  rw [this]
  omega

set_option maxHeartbeats 800000 in
theorem pick_any (B g : Nat) (p n : Int) (w : World) (hr : Rdr w B g p) (hp : p ≤ 1099511627776) :
    Calls Try.prog 25 #[.pointer (some ⟨g, 0, none⟩), .int .i64 n] w (Picked w B g p n) := by
  have hset := hr.set (p + 1) (by have := hr.2.1; omega)
  obtain ⟨hB, h0, a, m, c, hm, hh, hb⟩ := hr
  have c0 : w.cell? ⟨g, 0, none⟩ = some (.slice a m c) := by rw [cell_of_row w g 0 _ _ (0, 0) hh]; rfl
  have c1 : w.cell? ⟨g, 1, none⟩ = some (.int .i64 p) := by rw [cell_of_row w g 1 _ _ (0, 0) hh]; rfl
  have f1 : w.frozen? ⟨g, 1, none⟩ = false := frozen_of_row w g 1 _ _ hh
  clear hh
  have HS := Lib.hid hset
  clear hset
  by_cases hn : n < 1
  · go_enter Try.func25, Try.ntmps25
    go_wp2
    go_ret
    exact ⟨0, rfl, by omega, fun h => by omega, HS.out⟩
  · by_cases hm0 : m = 0
    · subst hm0
      go_enter Try.func25, Try.ntmps25
      go_wp2
      go_ret
      exact ⟨0, rfl, by omega, fun h => by omega, HS.out⟩
    · have hmz : ((m : Int) == 0) = false := by simp; omega
      obtain ⟨b, off, rfl, hlt, hc⟩ := hb 0 (by omega)
      have hbg : ¬ b = g := by omega
      by_cases hpm : p < m
      · obtain ⟨y, hy0, hy1, hcell⟩ := hc p.toNat (by omega)
        go_enter Try.func25, Try.ntmps25
        go_wp2
        go_ret
        exact ⟨_, rfl, Int.emod_nonneg _ (by omega), fun _ => Int.emod_lt_of_pos _ (by omega), HS.out⟩
      · obtain ⟨q, rfl⟩ := Int.eq_ofNat_of_zero_le h0
        obtain ⟨i1, hi1⟩ : ∃ i1, i1 = q % m := ⟨_, rfl⟩
        obtain ⟨i2, hi2⟩ : ∃ i2, i2 = (q * 7 + 3) % m := ⟨_, rfl⟩
        obtain ⟨i3, hi3⟩ : ∃ i3, i3 = q / m := ⟨_, rfl⟩
        have l1 : i1 < m := by rw [hi1]; exact Nat.mod_lt _ (by omega)
        have l2 : i2 < m := by rw [hi2]; exact Nat.mod_lt _ (by omega)
        have l3 : i3 ≤ q := by rw [hi3]; exact Nat.div_le_self _ _
        obtain ⟨y, hy0, hy1, hcell⟩ := hc i1 l1
        obtain ⟨z, hz0, hz1, hcell'⟩ := hc i2 l2
        have E1 : Hid ((q : Int).tmod m = (i1 : Int)) := Lib.hid (by rw [hi1, Int.tmod_eq_emod_of_nonneg (by omega)]; simp)
        have E2 : Hid (((q : Int) * 7 + 3).tmod m = (i2 : Int)) := Lib.hid (by rw [hi2, Int.tmod_eq_emod_of_nonneg (by omega)]; simp)
        have E3 : Hid ((q : Int).tdiv m = (i3 : Int)) := Lib.hid (by rw [hi3, Int.tdiv_eq_ediv_of_nonneg (by omega)]; simp)
        clear hi1 hi2 hi3
        have j1 : (0 : Int) ≤ (i1 : Int) := by omega
        have j1' : (i1 : Int) < (m : Int) := by omega
        have j2 : (0 : Int) ≤ (i2 : Int) := by omega
        have j2' : (i2 : Int) < (m : Int) := by omega
        go_enter Try.func25, Try.ntmps25
        go_wp2
        have e1 := E1.out
        have e2 := E2.out
        have e3 := E3.out
        go_quiet (fail)
        clear e1 e2 e3
        go_wp2
        go_ret
        have hx := xor_bd (y * 131 + z * 1117 + (q : Int) * 29 + (i3 : Int) * 53) (by omega) (by omega)
        rw [Int.tmod_eq_emod_of_nonneg hx]
        exact ⟨_, rfl, Int.emod_nonneg _ (by omega), fun _ => Int.emod_lt_of_pos _ (by omega), HS.out.1.drewN _, grownBy_drewN HS.out.2 _⟩


/-- A reader was made, in a new block. -/
def Opened (w : World) (e : Ending) (w' : World) : Prop :=
  e = .returned (.pointer (some ⟨w.heap.size, 0, none⟩)) ∧ Rdr w' w.heap.size w.heap.size 0 ∧ Below w.heap.size w w' ∧ w'.heap.size = w.heap.size + 1

theorem Rdr.new {w : World} {a : Option Addr} {n : Nat} (h : RdC w a n) (hn : n ≤ 2000) (c : Nat) :
    Rdr (w.alloc (.cells #[.slice a n c, .int .i64 0] 74)) w.heap.size w.heap.size 0 := by
  refine ⟨Nat.le_refl _, by omega, a, n, c, hn, heap_alloc_new w _, ?_⟩
  intro i hi
  obtain ⟨b, off, rfl, hlt, hc⟩ := h i hi
  refine ⟨b, off, rfl, hlt, fun j hj => ?_⟩
  obtain ⟨y, h1, h2, h3⟩ := hc j hj
  exact ⟨y, h1, h2, (World.cell?_alloc_lt w _ ⟨b, off + j, none⟩ hlt).trans h3⟩

set_option maxHeartbeats 400000 in
theorem l6Open_any (a : Option Addr) (n c : Nat) (w : World) (h : RdC w a n) (hc : n ≤ c) (hn : n ≤ 1048576) :
    Calls Try.prog 24 #[.slice a n c] w (Opened w) := by
  by_cases hm : n ≤ 2000
  · go_enter Try.func24, Try.ntmps24
    go_wp2
    go_ret
    exact ⟨rfl, Rdr.new h hm c, (Below.refl _ _).alloc (Nat.le_refl _) _, by simp⟩
  · have hcc : 2000 ≤ c := by omega
    obtain ⟨b, off, rfl, hlt, hcell⟩ := h 0 (by omega)
    go_enter Try.func24, Try.ntmps24
    go_wp2
    go_ret
    exact ⟨rfl, Rdr.new (h.less (by omega)) (by omega) c, (Below.refl _ _).alloc (Nat.le_refl _) _, by simp⟩

end Go.Proofs.Ytdjpaibjelfhnaa
