/- The kind of element Hold: its cells, by name. -/
import Derived.Test.YtcojgoibelgleaaRow
namespace Go.Proofs.Ytcojgoibelgleaa
open Go.RowKit
set_option linter.unusedVariables false

/-- The cells of an element. -/
def encO (x : ByteArray × ByteArray) : List Value := [.string x.1, .string x.2]

theorem encO_one (x : ByteArray × ByteArray) : ∀ v ∈ encO x, v.oneCell' = true := by
  intro v hv
  simp only [encO, List.mem_cons, List.mem_nil_iff, or_false] at hv
  rcases hv with rfl | rfl <;> rfl

def eltO : Elt (ByteArray × ByteArray) where
  ty := 36
  sl := 25
  m := 2
  bytes := 32
  z := .agg #[.string ByteArray.empty, .string ByteArray.empty]
  enc := encO
  pos := by decide
  len := fun x => rfl
  one := encO_one
  under := Try.underlying25
  info := by kernel_rfl
  zcells := by kernel_rfl
  small := by decide

def eltOL : Elt (ByteArray × ByteArray) where
  ty := 34
  sl := 22
  m := 2
  bytes := 32
  z := .agg #[.string ByteArray.empty, .string ByteArray.empty]
  enc := encO
  pos := by decide
  len := fun x => rfl
  one := encO_one
  under := Try.underlying22
  info := by kernel_rfl
  zcells := by kernel_rfl
  small := by decide

theorem atO {w : World} {a : Option Addr} {n : Nat} {xs : List (ByteArray × ByteArray)} (h : RdR eltO w a n xs) {i : Nat} (hi : i < n) :
    ∃ b off x, a = some ⟨b, off, none⟩ ∧ b < w.heap.size ∧ xs[i]? = some x ∧ w.cell? ⟨b, off + i * 2, none⟩ = some (.string x.1) ∧ w.cell? ⟨b, off + i * 2 + 1, none⟩ = some (.string x.2) := by
  obtain ⟨b, off, x, rfl, hl, hx, hc⟩ := h.at_ hi
  exact ⟨b, off, x, rfl, hl, hx, hc 0 _ rfl, hc 1 _ rfl⟩

theorem atOL {w : World} {a : Option Addr} {n : Nat} {xs : List (ByteArray × ByteArray)} (h : RdR eltOL w a n xs) {i : Nat} (hi : i < n) :
    ∃ b off x, a = some ⟨b, off, none⟩ ∧ b < w.heap.size ∧ xs[i]? = some x ∧ w.cell? ⟨b, off + i * 2, none⟩ = some (.string x.1) ∧ w.cell? ⟨b, off + i * 2 + 1, none⟩ = some (.string x.2) := by
  obtain ⟨b, off, x, rfl, hl, hx, hc⟩ := h.at_ hi
  exact ⟨b, off, x, rfl, hl, hx, hc 0 _ rfl, hc 1 _ rfl⟩

theorem cellsO {w : World} {B g c : Nat} {xs : List (ByteArray × ByteArray)} (h : OwnR eltO w B (some ⟨g, 0, none⟩) c xs) {j : Nat} {x : ByteArray × ByteArray} (hx : xs[j]? = some x) :
    (w.cell? ⟨g, j * 2, none⟩ = some (.string x.1) ∧ w.cell? ⟨g, j * 2 + 1, none⟩ = some (.string x.2)) ∧ (w.frozen? ⟨g, j * 2, none⟩ = false ∧ w.frozen? ⟨g, j * 2 + 1, none⟩ = false) :=
  ⟨⟨(h.cellAt hx (k := 0) rfl).1, (h.cellAt hx (k := 1) rfl).1⟩, ⟨(h.cellAt hx (k := 0) rfl).2, (h.cellAt hx (k := 1) rfl).2⟩⟩

theorem putO {w : World} {B g c : Nat} {xs : List (ByteArray × ByteArray)} (h : OwnR eltO w B (some ⟨g, 0, none⟩) c xs) (j : Nat) (hj : j < xs.length) (x : ByteArray × ByteArray) :
    OwnR eltO ((w.setCell ⟨g, j * 2, none⟩ (.string x.1)).setCell ⟨g, j * 2 + 1, none⟩ (.string x.2)) B (some ⟨g, 0, none⟩) c (xs.set j x) ∧ w.grownBy ((w.setCell ⟨g, j * 2, none⟩ (.string x.1)).setCell ⟨g, j * 2 + 1, none⟩ (.string x.2)) (some g) :=
  h.set j hj x

end Go.Proofs.Ytcojgoibelgleaa
