/- The kind of element Change: its cells, by name. -/
import Derived.Test.YtdjpaibjelfhnaaRow
namespace Go.Proofs.Ytdjpaibjelfhnaa
open Go.RowKit
set_option linter.unusedVariables false

/-- An element: its numbers and texts, where its own list lies, and what that reads as. -/
structure PV where
  kd : Int
  pa : ByteArray
  dr : Bool
  ad : Option Addr
  cp : Nat
  zs : List Int

/-- The cells of an element. -/
def encG (x : PV) : List Value := [.int .i64 x.kd, .string x.pa, .bool x.dr, .slice x.ad x.zs.length x.cp]

theorem encG_one (x : PV) : ∀ v ∈ encG x, v.oneCell' = true := by
  intro v hv
  simp only [encG, List.mem_cons, List.mem_nil_iff, or_false] at hv
  rcases hv with rfl | rfl | rfl | rfl <;> rfl

def eltG : Elt (PV) where
  ty := 64
  sl := 36
  m := 4
  bytes := 56
  z := .agg #[.int .i64 0, .string ByteArray.empty, .bool false, .slice none 0 0]
  enc := encG
  pos := by decide
  len := fun x => rfl
  one := encG_one
  under := Try.underlying36
  info := by kernel_rfl
  zcells := by kernel_rfl
  small := by decide

def eltGL : Elt (PV) where
  ty := 60
  sl := 32
  m := 4
  bytes := 56
  z := .agg #[.int .i64 0, .string ByteArray.empty, .bool false, .slice none 0 0]
  enc := encG
  pos := by decide
  len := fun x => rfl
  one := encG_one
  under := Try.underlying32
  info := by kernel_rfl
  zcells := by kernel_rfl
  small := by decide

theorem atG {w : World} {a : Option Addr} {n : Nat} {xs : List (PV)} (h : RdR eltG w a n xs) {i : Nat} (hi : i < n) :
    ∃ b off x, a = some ⟨b, off, none⟩ ∧ b < w.heap.size ∧ xs[i]? = some x ∧ w.cell? ⟨b, off + i * 4, none⟩ = some (.int .i64 x.kd) ∧ w.cell? ⟨b, off + i * 4 + 1, none⟩ = some (.string x.pa) ∧ w.cell? ⟨b, off + i * 4 + 2, none⟩ = some (.bool x.dr) ∧ w.cell? ⟨b, off + i * 4 + 3, none⟩ = some (.slice x.ad x.zs.length x.cp) := by
  obtain ⟨b, off, x, rfl, hl, hx, hc⟩ := h.at_ hi
  exact ⟨b, off, x, rfl, hl, hx, hc 0 _ rfl, hc 1 _ rfl, hc 2 _ rfl, hc 3 _ rfl⟩

theorem atGL {w : World} {a : Option Addr} {n : Nat} {xs : List (PV)} (h : RdR eltGL w a n xs) {i : Nat} (hi : i < n) :
    ∃ b off x, a = some ⟨b, off, none⟩ ∧ b < w.heap.size ∧ xs[i]? = some x ∧ w.cell? ⟨b, off + i * 4, none⟩ = some (.int .i64 x.kd) ∧ w.cell? ⟨b, off + i * 4 + 1, none⟩ = some (.string x.pa) ∧ w.cell? ⟨b, off + i * 4 + 2, none⟩ = some (.bool x.dr) ∧ w.cell? ⟨b, off + i * 4 + 3, none⟩ = some (.slice x.ad x.zs.length x.cp) := by
  obtain ⟨b, off, x, rfl, hl, hx, hc⟩ := h.at_ hi
  exact ⟨b, off, x, rfl, hl, hx, hc 0 _ rfl, hc 1 _ rfl, hc 2 _ rfl, hc 3 _ rfl⟩

theorem cellsG {w : World} {B g c : Nat} {xs : List (PV)} (h : OwnR eltG w B (some ⟨g, 0, none⟩) c xs) {j : Nat} {x : PV} (hx : xs[j]? = some x) :
    (w.cell? ⟨g, j * 4, none⟩ = some (.int .i64 x.kd) ∧ w.cell? ⟨g, j * 4 + 1, none⟩ = some (.string x.pa) ∧ w.cell? ⟨g, j * 4 + 2, none⟩ = some (.bool x.dr) ∧ w.cell? ⟨g, j * 4 + 3, none⟩ = some (.slice x.ad x.zs.length x.cp)) ∧ (w.frozen? ⟨g, j * 4, none⟩ = false ∧ w.frozen? ⟨g, j * 4 + 1, none⟩ = false ∧ w.frozen? ⟨g, j * 4 + 2, none⟩ = false ∧ w.frozen? ⟨g, j * 4 + 3, none⟩ = false) :=
  ⟨⟨(h.cellAt hx (k := 0) rfl).1, (h.cellAt hx (k := 1) rfl).1, (h.cellAt hx (k := 2) rfl).1, (h.cellAt hx (k := 3) rfl).1⟩, ⟨(h.cellAt hx (k := 0) rfl).2, (h.cellAt hx (k := 1) rfl).2, (h.cellAt hx (k := 2) rfl).2, (h.cellAt hx (k := 3) rfl).2⟩⟩

theorem putG {w : World} {B g c : Nat} {xs : List (PV)} (h : OwnR eltG w B (some ⟨g, 0, none⟩) c xs) (j : Nat) (hj : j < xs.length) (x : PV) :
    OwnR eltG ((((w.setCell ⟨g, j * 4, none⟩ (.int .i64 x.kd)).setCell ⟨g, j * 4 + 1, none⟩ (.string x.pa)).setCell ⟨g, j * 4 + 2, none⟩ (.bool x.dr)).setCell ⟨g, j * 4 + 3, none⟩ (.slice x.ad x.zs.length x.cp)) B (some ⟨g, 0, none⟩) c (xs.set j x) ∧ w.grownBy ((((w.setCell ⟨g, j * 4, none⟩ (.int .i64 x.kd)).setCell ⟨g, j * 4 + 1, none⟩ (.string x.pa)).setCell ⟨g, j * 4 + 2, none⟩ (.bool x.dr)).setCell ⟨g, j * 4 + 3, none⟩ (.slice x.ad x.zs.length x.cp)) (some g) :=
  h.set j hj x

end Go.Proofs.Ytdjpaibjelfhnaa
