/- The kind of element Quota: its cells, by name. -/
import Derived.Test.YtcojgoibelgleaaDoorRow
namespace Go.Proofs.YtcojgoibelgleaaDoor
open Go.RowKit
set_option linter.unusedVariables false

/-- The cells of an element. -/
def encQ (x : ByteArray × Int) : List Value := [.string x.1, .int .i64 x.2]

theorem encQ_one (x : ByteArray × Int) : ∀ v ∈ encQ x, v.oneCell' = true := by
  intro v hv
  simp only [encQ, List.mem_cons, List.mem_nil_iff, or_false] at hv
  rcases hv with rfl | rfl <;> rfl

def eltQ : Elt (ByteArray × Int) where
  ty := 38
  sl := 23
  m := 2
  bytes := 24
  z := .agg #[.string ByteArray.empty, .int .i64 0]
  enc := encQ
  pos := by decide
  len := fun x => rfl
  one := encQ_one
  under := Tryd.underlying23
  info := by kernel_rfl
  zcells := by kernel_rfl
  small := by decide

def eltQL : Elt (ByteArray × Int) where
  ty := 42
  sl := 27
  m := 2
  bytes := 24
  z := .agg #[.string ByteArray.empty, .int .i64 0]
  enc := encQ
  pos := by decide
  len := fun x => rfl
  one := encQ_one
  under := Tryd.underlying27
  info := by kernel_rfl
  zcells := by kernel_rfl
  small := by decide

theorem atQ {w : World} {a : Option Addr} {n : Nat} {xs : List (ByteArray × Int)} (h : RdR eltQ w a n xs) {i : Nat} (hi : i < n) :
    ∃ b off x, a = some ⟨b, off, none⟩ ∧ b < w.heap.size ∧ xs[i]? = some x ∧ w.cell? ⟨b, off + i * 2, none⟩ = some (.string x.1) ∧ w.cell? ⟨b, off + i * 2 + 1, none⟩ = some (.int .i64 x.2) := by
  obtain ⟨b, off, x, rfl, hl, hx, hc⟩ := h.at_ hi
  exact ⟨b, off, x, rfl, hl, hx, hc 0 _ rfl, hc 1 _ rfl⟩

theorem atQL {w : World} {a : Option Addr} {n : Nat} {xs : List (ByteArray × Int)} (h : RdR eltQL w a n xs) {i : Nat} (hi : i < n) :
    ∃ b off x, a = some ⟨b, off, none⟩ ∧ b < w.heap.size ∧ xs[i]? = some x ∧ w.cell? ⟨b, off + i * 2, none⟩ = some (.string x.1) ∧ w.cell? ⟨b, off + i * 2 + 1, none⟩ = some (.int .i64 x.2) := by
  obtain ⟨b, off, x, rfl, hl, hx, hc⟩ := h.at_ hi
  exact ⟨b, off, x, rfl, hl, hx, hc 0 _ rfl, hc 1 _ rfl⟩

theorem cellsQ {w : World} {B g c : Nat} {xs : List (ByteArray × Int)} (h : OwnR eltQ w B (some ⟨g, 0, none⟩) c xs) {j : Nat} {x : ByteArray × Int} (hx : xs[j]? = some x) :
    (w.cell? ⟨g, j * 2, none⟩ = some (.string x.1) ∧ w.cell? ⟨g, j * 2 + 1, none⟩ = some (.int .i64 x.2)) ∧ (w.frozen? ⟨g, j * 2, none⟩ = false ∧ w.frozen? ⟨g, j * 2 + 1, none⟩ = false) :=
  ⟨⟨(h.cellAt hx (k := 0) rfl).1, (h.cellAt hx (k := 1) rfl).1⟩, ⟨(h.cellAt hx (k := 0) rfl).2, (h.cellAt hx (k := 1) rfl).2⟩⟩

theorem putQ {w : World} {B g c : Nat} {xs : List (ByteArray × Int)} (h : OwnR eltQ w B (some ⟨g, 0, none⟩) c xs) (j : Nat) (hj : j < xs.length) (x : ByteArray × Int) :
    OwnR eltQ ((w.setCell ⟨g, j * 2, none⟩ (.string x.1)).setCell ⟨g, j * 2 + 1, none⟩ (.int .i64 x.2)) B (some ⟨g, 0, none⟩) c (xs.set j x) ∧ w.grownBy ((w.setCell ⟨g, j * 2, none⟩ (.string x.1)).setCell ⟨g, j * 2 + 1, none⟩ (.int .i64 x.2)) (some g) :=
  h.set j hj x

end Go.Proofs.YtcojgoibelgleaaDoor
