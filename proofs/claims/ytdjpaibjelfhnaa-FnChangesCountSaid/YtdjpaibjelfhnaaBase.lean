/- Readings of slices of ints, shared by all walks of this seat: what a slice reads as, and that it reads so behind later blocks. -/
import Derived.Test.YtdjpaibjelfhnaaChecked
import Derived.WalkKit
import Derived.WalkLawsBesides
import Derived.WalkSpells
import Derived.Lib.Hide
import Derived.Below
namespace Go.Proofs.Ytdjpaibjelfhnaa
open Go.RowKit

/-- The first n cells from a on read as the ints zs. -/
def RdI (w : World) (a : Option Addr) (n : Nat) (zs : List Int) : Prop :=
  zs.length = n ∧ ∀ i, i < n → ∃ b off, a = some ⟨b, off, none⟩ ∧ b < w.heap.size ∧ ∀ j, j < n → w.cell? ⟨b, off + j, none⟩ = some (.int .i64 (zs.getD j 0))

/-- All numbers fit an int. -/
def WfI (zs : List Int) : Prop := ∀ z ∈ zs, -9223372036854775808 ≤ z ∧ z ≤ 9223372036854775807

theorem RdI.below {w w' : World} {a : Option Addr} {n : Nat} {zs : List Int} (h : RdI w a n zs) (hb : Below w.heap.size w w') : RdI w' a n zs := by
  refine ⟨h.1, fun i hi => ?_⟩
  obtain ⟨b, off, rfl, hlt, hc⟩ := h.2 i hi
  exact ⟨b, off, rfl, Nat.lt_of_lt_of_le hlt hb.size, fun j hj => (hb.cell (p := ⟨b, off + j, none⟩) hlt).trans (hc j hj)⟩

theorem RdI.at_ {w : World} {a : Option Addr} {n : Nat} {zs : List Int} (h : RdI w a n zs) {i : Nat} (hi : i < n) :
    ∃ b off, a = some ⟨b, off, none⟩ ∧ ∃ x, x = zs.getD i 0 ∧ w.cell? ⟨b, off + i, none⟩ = some (.int .i64 x) := by
  obtain ⟨b, off, rfl, _, hc⟩ := h.2 i hi
  exact ⟨b, off, rfl, _, rfl, hc i hi⟩

theorem WfI.at_ {zs : List Int} (h : WfI zs) {i : Nat} (hi : i < zs.length) : -9223372036854775808 ≤ zs.getD i 0 ∧ zs.getD i 0 ≤ 9223372036854775807 := by
  have : zs.getD i 0 = zs[i] := by simp [List.getD, hi]
  rw [this]
  exact h _ (List.getElem_mem hi)

theorem RdI.wf_eq {w : World} {a : Option Addr} {n : Nat} {zs : List Int} (h : RdI w a n zs) : zs.length = n := h.1

/-- A slice of ints of the call's own: it lies in blocks from B on (or is nil). -/
def OwnI (w : World) (B : Nat) (a : Option Addr) (c : Nat) (zs : List Int) : Prop :=
  WfI zs ∧ w.ownsRow B 3 1 (.slice a zs.length c) zs.length (zs.map (Value.int .i64))

theorem info_int : (Try.prog.info? 3).map (fun i => (i.zero, i.size, i.bytes)) = some (some (.int .i64 0), 1, 8) := by kernel_rfl

theorem getElem?_ints (zs : List Int) (j : Nat) (h : j < zs.length) : (zs.map (Value.int .i64))[j]? = some (.int .i64 (zs.getD j 0)) := by
  simp [h]

theorem OwnI.rd {w : World} {B : Nat} {a : Option Addr} {c : Nat} {zs : List Int} (h : OwnI w B a c zs) : RdI w a zs.length zs := by
  refine ⟨rfl, fun i hi => ?_⟩
  rcases h.2.2 with ⟨h', h0⟩ | ⟨g, cap, cur, h', hb, hg, hnc, hcm, hcs, htake⟩
  · omega
  · injection h' with h1 h2 h3
    subst h1
    refine ⟨g, 0, rfl, (Array.getElem?_eq_some_iff.1 hg).1, fun j hj => ?_⟩
    rw [Nat.zero_add, cell_of_row w g j cur 3 (0, 0) hg]
    have := getElem?_ints zs j hj
    rw [← htake, List.getElem?_take] at this
    simpa [hj] using this

/-- What is owned from B on is owned behind whatever leaves all blocks alone that were there. -/
theorem OwnI.below {w w' : World} {B : Nat} {a : Option Addr} {c : Nat} {zs : List Int} (h : OwnI w B a c zs) (hb : Below w.heap.size w w') : OwnI w' B a c zs :=
  ⟨h.1, h.2.kept (row := none) ⟨hb.os, hb.tape, hb.output, hb.size, fun k hk _ => hb.block k hk⟩ (by cases hv : (Value.slice a zs.length c).ownBlock <;> simp)⟩

theorem OwnI.mono {w : World} {B B' : Nat} {a : Option Addr} {c : Nat} {zs : List Int} (h : OwnI w B a c zs) (hB : B' ≤ B) : OwnI w B' a c zs := by
  refine ⟨h.1, h.2.1, ?_⟩
  rcases h.2.2 with h0 | ⟨g, cap, cur, h', hb, hr⟩
  · exact .inl h0
  · exact .inr ⟨g, cap, cur, h', Nat.le_trans hB hb, hr⟩

/-- A code reads as bytes (ints of 8 bits). -/
def RdC (w : World) (a : Option Addr) (n : Nat) : Prop :=
  ∀ i, i < n → ∃ b off, a = some ⟨b, off, none⟩ ∧ b < w.heap.size ∧ ∀ j, j < n → ∃ y : Int, 0 ≤ y ∧ y ≤ 255 ∧ w.cell? ⟨b, off + j, none⟩ = some (.int .u8 y)

theorem RdC.less {w : World} {a : Option Addr} {n m : Nat} (h : RdC w a n) (hm : m ≤ n) : RdC w a m := by
  intro i hi
  obtain ⟨b, off, rfl, hlt, hc⟩ := h i (by omega)
  exact ⟨b, off, rfl, hlt, fun j hj => hc j (by omega)⟩

theorem RdC.below {w w' : World} {a : Option Addr} {n : Nat} (h : RdC w a n) (hb : Below w.heap.size w w') : RdC w' a n := by
  intro i hi
  obtain ⟨b, off, rfl, hlt, hc⟩ := h i hi
  refine ⟨b, off, rfl, Nat.lt_of_lt_of_le hlt hb.size, fun j hj => ?_⟩
  obtain ⟨y, h1, h2, h3⟩ := hc j hj
  exact ⟨y, h1, h2, (hb.cell (p := ⟨b, off + j, none⟩) hlt).trans h3⟩


end Go.Proofs.Ytdjpaibjelfhnaa
