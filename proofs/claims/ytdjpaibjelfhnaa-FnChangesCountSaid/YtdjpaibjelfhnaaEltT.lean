/- The kind of element Item: its cells, by name. -/
import Derived.Test.YtdjpaibjelfhnaaRow
namespace Go.Proofs.Ytdjpaibjelfhnaa
open Go.RowKit
set_option linter.unusedVariables false

/-- An element: its numbers and texts, where its own list lies, and what that reads as. -/
structure TV where
  pa : ByteArray
  dr : Bool
  ad : Option Addr
  cp : Nat
  zs : List Int

/-- The cells of an element. -/
def encT (x : TV) : List Value := [.string x.pa, .bool x.dr, .slice x.ad x.zs.length x.cp]

theorem encT_one (x : TV) : ∀ v ∈ encT x, v.oneCell' = true := by
  intro v hv
  simp only [encT, List.mem_cons, List.mem_nil_iff, or_false] at hv
  rcases hv with rfl | rfl | rfl <;> rfl

def eltT : Elt (TV) where
  ty := 62
  sl := 68
  m := 3
  bytes := 48
  z := .agg #[.string ByteArray.empty, .bool false, .slice none 0 0]
  enc := encT
  pos := by decide
  len := fun x => rfl
  one := encT_one
  under := Try.underlying68
  info := by kernel_rfl
  zcells := by kernel_rfl
  small := by decide


theorem atT {w : World} {a : Option Addr} {n : Nat} {xs : List (TV)} (h : RdR eltT w a n xs) {i : Nat} (hi : i < n) :
    ∃ b off x, a = some ⟨b, off, none⟩ ∧ b < w.heap.size ∧ xs[i]? = some x ∧ w.cell? ⟨b, off + i * 3, none⟩ = some (.string x.pa) ∧ w.cell? ⟨b, off + i * 3 + 1, none⟩ = some (.bool x.dr) ∧ w.cell? ⟨b, off + i * 3 + 2, none⟩ = some (.slice x.ad x.zs.length x.cp) := by
  obtain ⟨b, off, x, rfl, hl, hx, hc⟩ := h.at_ hi
  exact ⟨b, off, x, rfl, hl, hx, hc 0 _ rfl, hc 1 _ rfl, hc 2 _ rfl⟩


theorem cellsT {w : World} {B g c : Nat} {xs : List (TV)} (h : OwnR eltT w B (some ⟨g, 0, none⟩) c xs) {j : Nat} {x : TV} (hx : xs[j]? = some x) :
    (w.cell? ⟨g, j * 3, none⟩ = some (.string x.pa) ∧ w.cell? ⟨g, j * 3 + 1, none⟩ = some (.bool x.dr) ∧ w.cell? ⟨g, j * 3 + 2, none⟩ = some (.slice x.ad x.zs.length x.cp)) ∧ (w.frozen? ⟨g, j * 3, none⟩ = false ∧ w.frozen? ⟨g, j * 3 + 1, none⟩ = false ∧ w.frozen? ⟨g, j * 3 + 2, none⟩ = false) :=
  ⟨⟨(h.cellAt hx (k := 0) rfl).1, (h.cellAt hx (k := 1) rfl).1, (h.cellAt hx (k := 2) rfl).1⟩, ⟨(h.cellAt hx (k := 0) rfl).2, (h.cellAt hx (k := 1) rfl).2, (h.cellAt hx (k := 2) rfl).2⟩⟩

theorem putT {w : World} {B g c : Nat} {xs : List (TV)} (h : OwnR eltT w B (some ⟨g, 0, none⟩) c xs) (j : Nat) (hj : j < xs.length) (x : TV) :
    OwnR eltT (((w.setCell ⟨g, j * 3, none⟩ (.string x.pa)).setCell ⟨g, j * 3 + 1, none⟩ (.bool x.dr)).setCell ⟨g, j * 3 + 2, none⟩ (.slice x.ad x.zs.length x.cp)) B (some ⟨g, 0, none⟩) c (xs.set j x) ∧ w.grownBy (((w.setCell ⟨g, j * 3, none⟩ (.string x.pa)).setCell ⟨g, j * 3 + 1, none⟩ (.bool x.dr)).setCell ⟨g, j * 3 + 2, none⟩ (.slice x.ad x.zs.length x.cp)) (some g) :=
  h.set j hj x

end Go.Proofs.Ytdjpaibjelfhnaa
