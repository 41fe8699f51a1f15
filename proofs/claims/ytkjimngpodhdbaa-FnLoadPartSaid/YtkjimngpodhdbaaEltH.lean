/- The kind of element Held: its cells, by name. -/
import Derived.Test.YtkjimngpodhdbaaRow
namespace Go.Proofs.Ytkjimngpodhdbaa
open Go.RowKit
set_option linter.unusedVariables false

/-- An element: its numbers and texts, where its own list lies, and what that reads as. -/
structure HV where
  id : Int
  ad : Option Addr
  cp : Nat
  zs : List Int
  us : Int

/-- The cells of an element. -/
def encH (x : HV) : List Value := [.int .i64 x.id, .slice x.ad x.zs.length x.cp, .int .i64 x.us]

theorem encH_one (x : HV) : ∀ v ∈ encH x, v.oneCell' = true := by
  intro v hv
  simp only [encH, List.mem_cons, List.mem_nil_iff, or_false] at hv
  rcases hv with rfl | rfl | rfl <;> rfl

def eltH : Elt (HV) where
  ty := 47
  sl := 25
  m := 3
  bytes := 40
  z := .agg #[.int .i64 0, .slice none 0 0, .int .i64 0]
  enc := encH
  pos := by decide
  len := fun x => rfl
  one := encH_one
  under := Try.underlying25
  info := by kernel_rfl
  zcells := by kernel_rfl
  small := by decide

def eltHL : Elt (HV) where
  ty := 46
  sl := 22
  m := 3
  bytes := 40
  z := .agg #[.int .i64 0, .slice none 0 0, .int .i64 0]
  enc := encH
  pos := by decide
  len := fun x => rfl
  one := encH_one
  under := Try.underlying22
  info := by kernel_rfl
  zcells := by kernel_rfl
  small := by decide

theorem atH {w : World} {a : Option Addr} {n : Nat} {xs : List (HV)} (h : RdR eltH w a n xs) {i : Nat} (hi : i < n) :
    ∃ b off x, a = some ⟨b, off, none⟩ ∧ b < w.heap.size ∧ xs[i]? = some x ∧ w.cell? ⟨b, off + i * 3, none⟩ = some (.int .i64 x.id) ∧ w.cell? ⟨b, off + i * 3 + 1, none⟩ = some (.slice x.ad x.zs.length x.cp) ∧ w.cell? ⟨b, off + i * 3 + 2, none⟩ = some (.int .i64 x.us) := by
  obtain ⟨b, off, x, rfl, hl, hx, hc⟩ := h.at_ hi
  exact ⟨b, off, x, rfl, hl, hx, hc 0 _ rfl, hc 1 _ rfl, hc 2 _ rfl⟩

theorem atHL {w : World} {a : Option Addr} {n : Nat} {xs : List (HV)} (h : RdR eltHL w a n xs) {i : Nat} (hi : i < n) :
    ∃ b off x, a = some ⟨b, off, none⟩ ∧ b < w.heap.size ∧ xs[i]? = some x ∧ w.cell? ⟨b, off + i * 3, none⟩ = some (.int .i64 x.id) ∧ w.cell? ⟨b, off + i * 3 + 1, none⟩ = some (.slice x.ad x.zs.length x.cp) ∧ w.cell? ⟨b, off + i * 3 + 2, none⟩ = some (.int .i64 x.us) := by
  obtain ⟨b, off, x, rfl, hl, hx, hc⟩ := h.at_ hi
  exact ⟨b, off, x, rfl, hl, hx, hc 0 _ rfl, hc 1 _ rfl, hc 2 _ rfl⟩

theorem cellsH {w : World} {B g c : Nat} {xs : List (HV)} (h : OwnR eltH w B (some ⟨g, 0, none⟩) c xs) {j : Nat} {x : HV} (hx : xs[j]? = some x) :
    (w.cell? ⟨g, j * 3, none⟩ = some (.int .i64 x.id) ∧ w.cell? ⟨g, j * 3 + 1, none⟩ = some (.slice x.ad x.zs.length x.cp) ∧ w.cell? ⟨g, j * 3 + 2, none⟩ = some (.int .i64 x.us)) ∧ (w.frozen? ⟨g, j * 3, none⟩ = false ∧ w.frozen? ⟨g, j * 3 + 1, none⟩ = false ∧ w.frozen? ⟨g, j * 3 + 2, none⟩ = false) :=
  ⟨⟨(h.cellAt hx (k := 0) rfl).1, (h.cellAt hx (k := 1) rfl).1, (h.cellAt hx (k := 2) rfl).1⟩, ⟨(h.cellAt hx (k := 0) rfl).2, (h.cellAt hx (k := 1) rfl).2, (h.cellAt hx (k := 2) rfl).2⟩⟩

theorem putH {w : World} {B g c : Nat} {xs : List (HV)} (h : OwnR eltH w B (some ⟨g, 0, none⟩) c xs) (j : Nat) (hj : j < xs.length) (x : HV) :
    OwnR eltH (((w.setCell ⟨g, j * 3, none⟩ (.int .i64 x.id)).setCell ⟨g, j * 3 + 1, none⟩ (.slice x.ad x.zs.length x.cp)).setCell ⟨g, j * 3 + 2, none⟩ (.int .i64 x.us)) B (some ⟨g, 0, none⟩) c (xs.set j x) ∧ w.grownBy (((w.setCell ⟨g, j * 3, none⟩ (.int .i64 x.id)).setCell ⟨g, j * 3 + 1, none⟩ (.slice x.ad x.zs.length x.cp)).setCell ⟨g, j * 3 + 2, none⟩ (.int .i64 x.us)) (some g) :=
  h.set j hj x

end Go.Proofs.Ytkjimngpodhdbaa
