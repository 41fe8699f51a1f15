/- A draw in progress: the reader has gone on; only it, and what is new, has changed. -/
import Derived.Test.YtdjpaibjelfhnaaPick
namespace Go.Proofs.Ytdjpaibjelfhnaa
open Go.RowKit
set_option linter.unusedVariables false

/-- The state of a draw: the reader has gone on by at most lim numbers; only it, and what is new, has changed. -/
def Drawn (w wr : World) (B g : Nat) (lim : Int) : Prop := (∃ q : Int, q ≤ lim ∧ Rdr wr B g q) ∧ w.grownBy wr (some g)

theorem Rdr.lt {w : World} {B g : Nat} {p : Int} (h : Rdr w B g p) : g < w.heap.size := by
  obtain ⟨_, _, a, n, c, _, hh, _⟩ := h
  exact (Array.getElem?_eq_some_iff.1 hh).1

theorem grownBy_trans {a b c : World} {row : Option Nat} (h : a.grownBy b row) (k : b.grownBy c row) : a.grownBy c row :=
  ⟨k.os.trans h.os, k.tape.trans h.tape, k.output.trans h.output, Nat.le_trans h.size k.size, fun i hi hn => (k.block i (Nat.lt_of_lt_of_le hi h.size) hn).trans (h.block i hi hn)⟩

theorem grownBy_of_below {a b : World} (h : Below a.heap.size a b) (row : Option Nat) : a.grownBy b row := ⟨h.os, h.tape, h.output, h.size, fun i hi _ => h.block i hi⟩

theorem Rdr.grown {w w' : World} {B g : Nat} {p : Int} (h : Rdr w B g p) {row : Option Nat} (hg : w.grownBy w' row) (hr : ∀ r, row = some r → g < r) : Rdr w' B g p := by
  have hlt := h.lt
  obtain ⟨hB, h0, a, n, c, hn, hh, hb⟩ := h
  refine ⟨hB, h0, a, n, c, hn, (hg.block g hlt (fun e => by have := hr g e.symm; omega)).trans hh, ?_⟩
  intro i hi
  obtain ⟨b, off, rfl, hlt', hc⟩ := hb i hi
  refine ⟨b, off, rfl, hlt', fun j hj => ?_⟩
  obtain ⟨y, h1, h2, h3⟩ := hc j hj
  exact ⟨y, h1, h2, hg.cell h3 (fun e => by have := hr b e.symm; omega)⟩

/-- A number was drawn in the middle of a draw. -/
def PickD (w wr : World) (B g : Nat) (lim n : Int) (e : Ending) (w1 : World) : Prop :=
  ∃ x : Int, e = .returned (.int .i64 x) ∧ 0 ≤ x ∧ (1 ≤ n → x < n) ∧ Drawn w w1 B g (lim + 1) ∧ wr.grownBy w1 (some g)

theorem Drawn.start {w : World} {B g : Nat} {p : Int} (h : Rdr w B g p) : Drawn w w B g p := ⟨⟨p, Int.le_refl _, h⟩, World.grownBy.refl _ _⟩
theorem Drawn.lt {w wr : World} {B g : Nat} {lim : Int} (h : Drawn w wr B g lim) : g < wr.heap.size := by obtain ⟨⟨q, _, hr⟩, _⟩ := h; exact hr.lt
theorem Drawn.step {w wr w1 : World} {B g : Nat} {lim : Int} (h : Drawn w wr B g lim) {row : Option Nat} (hg : wr.grownBy w1 row) (hr : ∀ r, row = some r → g < r ∧ w.heap.size ≤ r) : Drawn w w1 B g lim := by
  obtain ⟨⟨q, hq, hrd⟩, h2⟩ := h
  refine ⟨⟨q, hq, hrd.grown hg (fun r e => (hr r e).1)⟩, ⟨hg.os.trans h2.os, hg.tape.trans h2.tape, hg.output.trans h2.output, Nat.le_trans h2.size hg.size, fun k hk hn => ?_⟩⟩
  exact (hg.block k (Nat.lt_of_lt_of_le hk h2.size) (fun e => by have := (hr k e.symm).2; omega)).trans (h2.block k hk hn)
theorem Drawn.alloc {w wr : World} {B g : Nat} {lim : Int} (h : Drawn w wr B g lim) (o : Obj) : Drawn w (wr.alloc o) B g lim := h.step (World.grownBy_alloc wr o none) (fun r e => by cases e)
theorem Drawn.le {w wr : World} {B g : Nat} {lim lim' : Int} (h : Drawn w wr B g lim) (hl : lim ≤ lim') : Drawn w wr B g lim' := by
  obtain ⟨⟨q, hq, hrd⟩, h2⟩ := h
  exact ⟨⟨q, Int.le_trans hq hl, hrd⟩, h2⟩

theorem pickD {w wr : World} {B g : Nat} {lim : Int} (n : Int) (h : Drawn w wr B g lim) (hl : lim ≤ 1000000000000) :
    Calls Try.prog 25 #[.pointer (some ⟨g, 0, none⟩), .int .i64 n] wr (PickD w wr B g lim n) := by
  obtain ⟨⟨q, hq, hrd⟩, h2⟩ := h
  refine (pick_any B g q n wr hrd (by omega)).mono ?_
  rintro e w1 ⟨x, rfl, h0, h1, hr1, hg1⟩
  exact ⟨x, rfl, h0, h1, ⟨⟨q + 1, by omega, hr1⟩, grownBy_trans h2 hg1⟩, hg1⟩

end Go.Proofs.Ytdjpaibjelfhnaa
