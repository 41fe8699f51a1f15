/- Readings of slices of sums (two ints an element). -/
import Derived.Test.YtajheicheefpeaaBase
import Derived.Deep.Draws
namespace Go.Proofs.Ytajheicheefpeaa
open Go.RowKit
set_option linter.unusedVariables false

/-- The first n elements from a on read as the pairs xs. -/
def RdX (w : World) (a : Option Addr) (n : Nat) (xs : List (Int × Int)) : Prop :=
  xs.length = n ∧ ∀ i, i < n → ∃ b off, a = some ⟨b, off, none⟩ ∧ b < w.heap.size ∧
    ∀ j, j < n → w.cell? ⟨b, off + j * 2, none⟩ = some (.int .i64 (xs.getD j (0, 0)).1) ∧ w.cell? ⟨b, off + j * 2 + 1, none⟩ = some (.int .i64 (xs.getD j (0, 0)).2)

/-- All numbers fit an int. -/
def WfX (xs : List (Int × Int)) : Prop := ∀ x ∈ xs, (-9223372036854775808 ≤ x.1 ∧ x.1 ≤ 9223372036854775807) ∧ -9223372036854775808 ≤ x.2 ∧ x.2 ≤ 9223372036854775807

theorem RdX.below {w w' : World} {a : Option Addr} {n : Nat} {xs : List (Int × Int)} (h : RdX w a n xs) (hb : Below w.heap.size w w') : RdX w' a n xs := by
  refine ⟨h.1, fun i hi => ?_⟩
  obtain ⟨b, off, rfl, hlt, hc⟩ := h.2 i hi
  exact ⟨b, off, rfl, Nat.lt_of_lt_of_le hlt hb.size, fun j hj => ⟨(hb.cell (p := ⟨b, off + j * 2, none⟩) hlt).trans (hc j hj).1, (hb.cell (p := ⟨b, off + j * 2 + 1, none⟩) hlt).trans (hc j hj).2⟩⟩

theorem RdX.drewN {w : World} {a : Option Addr} {n : Nat} {xs : List (Int × Int)} (h : RdX w a n xs) (k : Nat) : RdX (w.drewN k) a n xs := h

theorem getD_mem_pair {xs : List (Int × Int)} {i : Nat} (h : i < xs.length) : xs.getD i (0, 0) ∈ xs := by
  have e : xs.getD i (0, 0) = xs[i] := by simp [List.getD_eq_getElem?_getD, h]
  rw [e]; exact List.getElem_mem _

/-- An element, by name. -/
theorem RdX.at_ {w : World} {a : Option Addr} {n : Nat} {xs : List (Int × Int)} (h : RdX w a n xs) (hw : WfX xs) {i : Nat} (hi : i < n) :
    ∃ b off, a = some ⟨b, off, none⟩ ∧ b < w.heap.size ∧ ∃ f m, xs.getD i (0, 0) = (f, m) ∧ w.cell? ⟨b, off + i * 2, none⟩ = some (.int .i64 f) ∧ w.cell? ⟨b, off + i * 2 + 1, none⟩ = some (.int .i64 m) ∧
      (-9223372036854775808 ≤ f ∧ f ≤ 9223372036854775807) ∧ -9223372036854775808 ≤ m ∧ m ≤ 9223372036854775807 := by
  obtain ⟨b, off, rfl, hlt, hc⟩ := h.2 i hi
  have hm := hw _ (getD_mem_pair (xs := xs) (i := i) (by rw [h.1]; exact hi))
  exact ⟨b, off, rfl, hlt, _, _, rfl, (hc i hi).1, (hc i hi).2, hm⟩

def flatX (xs : List (Int × Int)) : List Value := xs.flatMap fun x => [.int .i64 x.1, .int .i64 x.2]

theorem flatX_length (xs : List (Int × Int)) : (flatX xs).length = xs.length * 2 := by
  induction xs with
  | nil => rfl
  | cons p ps ih => simp only [flatX, List.flatMap_cons, List.length_append, List.length_cons, List.length_nil] at *; omega

theorem flatX_append (xs ys : List (Int × Int)) : flatX (xs ++ ys) = flatX xs ++ flatX ys := by simp [flatX]

theorem flatX_get (xs : List (Int × Int)) (j : Nat) (h : j < xs.length) : (flatX xs)[j * 2]? = some (.int .i64 (xs.getD j (0, 0)).1) ∧ (flatX xs)[j * 2 + 1]? = some (.int .i64 (xs.getD j (0, 0)).2) := by
  induction xs generalizing j with
  | nil => simp at h
  | cons p ps ih =>
    cases j with
    | zero => simp [flatX, List.getD_eq_getElem?_getD]
    | succ j =>
      have := ih j (by simpa using h)
      simp only [flatX, List.flatMap_cons] at *
      rw [show (j + 1) * 2 = j * 2 + 1 + 1 by omega, show j * 2 + 1 + 1 + 1 = (j * 2 + 1) + 1 + 1 by omega]
      simpa [List.getD_eq_getElem?_getD] using this

/-- A slice of sums of the call's own: it lies in blocks from B on (or is nil). -/
def OwnX (w : World) (B : Nat) (a : Option Addr) (c : Nat) (xs : List (Int × Int)) : Prop :=
  WfX xs ∧ w.ownsRow B 53 2 (.slice a xs.length c) xs.length (flatX xs)

theorem info_ext : (Try.prog.info? 53).map (fun i => (i.zero, i.size, i.bytes)) = some (some (.agg #[.int .i64 0, .int .i64 0]), 2, 16) := by kernel_rfl

theorem OwnX.rd {w : World} {B : Nat} {a : Option Addr} {c : Nat} {xs : List (Int × Int)} (h : OwnX w B a c xs) : RdX w a xs.length xs := by
  refine ⟨rfl, fun i hi => ?_⟩
  rcases h.2.2 with ⟨h', h0⟩ | ⟨g, cap, cur, h', hb, hg, hnc, hcm, hcs, htake⟩
  · omega
  · injection h' with h1 h2 h3
    subst h1
    refine ⟨g, 0, rfl, (Array.getElem?_eq_some_iff.1 hg).1, fun j hj => ?_⟩
    have hf := flatX_get xs j hj
    rw [← htake, List.getElem?_take, List.getElem?_take, if_pos (by omega), if_pos (by omega)] at hf
    rw [Nat.zero_add, cell_of_row w g _ cur _ (0, 0) hg, cell_of_row w g _ cur _ (0, 0) hg]
    exact ⟨by simpa using hf.1, by simpa using hf.2⟩

theorem OwnX.below {w w' : World} {B : Nat} {a : Option Addr} {c : Nat} {xs : List (Int × Int)} (h : OwnX w B a c xs) (hb : Below w.heap.size w w') : OwnX w' B a c xs :=
  ⟨h.1, h.2.kept (row := none) ⟨hb.os, hb.tape, hb.output, hb.size, fun k hk _ => hb.block k hk⟩ (by cases hv : (Value.slice a xs.length c).ownBlock <;> simp)⟩

theorem OwnX.mono {w : World} {B B' : Nat} {a : Option Addr} {c : Nat} {xs : List (Int × Int)} (h : OwnX w B a c xs) (hB : B' ≤ B) : OwnX w B' a c xs := by
  refine ⟨h.1, h.2.1, ?_⟩
  rcases h.2.2 with h0 | ⟨g, cap, cur, h', hb, hr⟩
  · exact .inl h0
  · exact .inr ⟨g, cap, cur, h', Nat.le_trans hB hb, hr⟩

theorem OwnX.wf {w : World} {B : Nat} {a : Option Addr} {c : Nat} {xs : List (Int × Int)} (h : OwnX w B a c xs) : WfX xs := h.1
theorem OwnX.drewN {w : World} {B : Nat} {a : Option Addr} {c : Nat} {xs : List (Int × Int)} (h : OwnX w B a c xs) (k : Nat) : OwnX (w.drewN k) B a c xs := h
theorem OwnX.drew {w : World} {B : Nat} {a : Option Addr} {c : Nat} {xs : List (Int × Int)} (h : OwnX w B a c xs) : OwnX w.drew B a c xs := h
theorem OwnX.alloc {w : World} {B : Nat} {a : Option Addr} {c : Nat} {xs : List (Int × Int)} (h : OwnX w B a c xs) (o : Obj) : OwnX (w.alloc o) B a c xs := ⟨h.1, h.2.alloc o⟩
theorem OwnX.nil (w : World) (B : Nat) : OwnX w B none 0 [] := ⟨(by intro z hz; cases hz), World.ownsRow_nil w B _ 2⟩

theorem OwnX.empty {w : World} {B : Nat} (hB : B ≤ w.heap.size) : OwnX (w.alloc (.cells #[] 53)) B (some ⟨w.heap.size, 0, none⟩) 0 [] := by
  refine ⟨?_, ?_⟩
  · intro z hz; cases hz
  · exact World.ownsRow_made w #[] 0 hB (Nat.zero_le _) (by simp)

theorem OwnX.cap {w : World} {B : Nat} {a : Option Addr} {c : Nat} {xs : List (Int × Int)} (h : OwnX w B a c xs) : xs.length ≤ c ∧ c ≤ maxLen := by
  rcases h.2.2 with ⟨h1, h0⟩ | ⟨g, cap, cur, hv, hb, hg, hnc, hcm, _⟩
  · injection h1 with _ _ h3
    omega
  · injection hv with _ _ h3
    omega

theorem OwnX.head {w : World} {B : Nat} {a : Option Addr} {c : Nat} {xs : List (Int × Int)} (h : OwnX w B a c xs) (h0 : 0 < xs.length) : ∃ g, a = some ⟨g, 0, none⟩ ∧ B ≤ g ∧ g < w.heap.size := by
  rcases h.2.2 with ⟨_, h'⟩ | ⟨g, cap, cur, hv, hb, hg, _⟩
  · omega
  · injection hv with hv
    exact ⟨g, hv, hb, (Array.getElem?_eq_some_iff.1 hg).1⟩

theorem OwnX.grown {w w' : World} {B : Nat} {a : Option Addr} {c g : Nat} {xs : List (Int × Int)} (h : OwnX w B a c xs) (hg : w.grownBy w' (some g)) (hB : g < B) : OwnX w' B a c xs := by
  refine ⟨h.1, h.2.kept hg ?_⟩
  cases hv : (Value.slice a xs.length c).ownBlock with
  | none => exact .inl rfl
  | some k => exact .inr (fun e => by have := (h.2.lt k hv).1; injection e; omega)

theorem OwnX.apart {w w' : World} {B : Nat} {a : Option Addr} {c : Nat} {xs : List (Int × Int)} (h : OwnX w B a c xs) {row : Option Nat} (hg : w.grownBy w' row)
    (hne : ∀ k, (Value.slice a xs.length c).ownBlock = some k → ∀ r, row = some r → k ≠ r) : OwnX w' B a c xs := by
  refine ⟨h.1, h.2.kept hg ?_⟩
  cases hv : (Value.slice a xs.length c).ownBlock with
  | none => exact .inl rfl
  | some k => exact .inr (fun e => hne k hv k e.symm rfl)

theorem own_rowX {w : World} {B g : Nat} {a : Option Addr} {c : Nat} {xs : List (Int × Int)} (h : OwnX w B a c xs) (hB : g < B) : ∀ r, (Value.slice a xs.length c).ownBlock = some r → g < r ∧ B ≤ r := by
  intro r hr
  have := (h.2.lt r hr).1
  omega

/-- One cell of element j is written. -/
theorem OwnX.set1 {w : World} {B g : Nat} {c : Nat} {xs : List (Int × Int)} (h : OwnX w B (some ⟨g, 0, none⟩) c xs) (j : Nat) (hj : j < xs.length) (y : Int) (h0 : -9223372036854775808 ≤ y) (h1 : y ≤ 9223372036854775807) :
    OwnX (w.setCell ⟨g, j * 2, none⟩ (.int .i64 y)) B (some ⟨g, 0, none⟩) c (xs.set j (y, (xs.getD j (0, 0)).2)) ∧ w.grownBy (w.setCell ⟨g, j * 2, none⟩ (.int .i64 y)) (some g) := by
  have hst := h.2.stored (j * 2) (.int .i64 y)
  refine ⟨⟨fun z hz => ?_, ?_⟩, hst.2⟩
  · rcases List.mem_or_eq_of_mem_set hz with h' | rfl
    · exact h.1 z h'
    · exact ⟨⟨h0, h1⟩, (h.1 _ (getD_mem_pair hj)).2⟩
  · have e : flatX (xs.set j (y, (xs.getD j (0, 0)).2)) = (flatX xs).set (j * 2) (.int .i64 y) := by
      clear hst h
      induction xs generalizing j with
      | nil => simp at hj
      | cons p ps ih =>
        cases j with
        | zero => simp [flatX, List.getD_eq_getElem?_getD]
        | succ j =>
          have := ih j (by simpa using hj)
          rw [show (j + 1) * 2 = j * 2 + 1 + 1 by omega]
          simpa [flatX, List.getD_eq_getElem?_getD] using this
    rw [List.length_set, e]
    exact hst.1

theorem OwnX.set2 {w : World} {B g : Nat} {c : Nat} {xs : List (Int × Int)} (h : OwnX w B (some ⟨g, 0, none⟩) c xs) (j : Nat) (hj : j < xs.length) (y : Int) (h0 : -9223372036854775808 ≤ y) (h1 : y ≤ 9223372036854775807) :
    OwnX (w.setCell ⟨g, j * 2 + 1, none⟩ (.int .i64 y)) B (some ⟨g, 0, none⟩) c (xs.set j ((xs.getD j (0, 0)).1, y)) ∧ w.grownBy (w.setCell ⟨g, j * 2 + 1, none⟩ (.int .i64 y)) (some g) := by
  have hst := h.2.stored (j * 2 + 1) (.int .i64 y)
  refine ⟨⟨fun z hz => ?_, ?_⟩, hst.2⟩
  · rcases List.mem_or_eq_of_mem_set hz with h' | rfl
    · exact h.1 z h'
    · exact ⟨(h.1 _ (getD_mem_pair hj)).1, h0, h1⟩
  · have e : flatX (xs.set j ((xs.getD j (0, 0)).1, y)) = (flatX xs).set (j * 2 + 1) (.int .i64 y) := by
      clear hst h
      induction xs generalizing j with
      | nil => simp at hj
      | cons p ps ih =>
        cases j with
        | zero => simp [flatX, List.getD_eq_getElem?_getD]
        | succ j =>
          have := ih j (by simpa using hj)
          rw [show (j + 1) * 2 + 1 = (j * 2 + 1) + 1 + 1 by omega]
          simpa [flatX, List.getD_eq_getElem?_getD] using this
    rw [List.length_set, e]
    exact hst.1

/-- Both cells of element j are written. -/
theorem OwnX.setBoth {w : World} {B g : Nat} {c : Nat} {xs : List (Int × Int)} (h : OwnX w B (some ⟨g, 0, none⟩) c xs) (j : Nat) (hj : j < xs.length) (f m : Int) (h0 : -9223372036854775808 ≤ f) (h1 : f ≤ 9223372036854775807) (h2 : -9223372036854775808 ≤ m) (h3 : m ≤ 9223372036854775807) :
    OwnX ((w.setCell ⟨g, j * 2, none⟩ (.int .i64 f)).setCell ⟨g, j * 2 + 1, none⟩ (.int .i64 m)) B (some ⟨g, 0, none⟩) c (xs.set j (f, m)) ∧ w.grownBy ((w.setCell ⟨g, j * 2, none⟩ (.int .i64 f)).setCell ⟨g, j * 2 + 1, none⟩ (.int .i64 m)) (some g) := by
  have a := h.set1 j hj f h0 h1
  have b := a.1.set2 j (by rw [List.length_set]; exact hj) m h2 h3
  have e : (xs.set j (f, (xs.getD j (0, 0)).2)).getD j (0, 0) = (f, (xs.getD j (0, 0)).2) := by simp [List.getD_eq_getElem?_getD, hj]
  rw [e, List.set_set] at b
  refine ⟨b.1, ?_, ?_, ?_, ?_, ?_⟩
  · exact b.2.os.trans a.2.os
  · exact b.2.tape.trans a.2.tape
  · exact b.2.output.trans a.2.output
  · exact Nat.le_trans a.2.size b.2.size
  · intro k hk hne
    rw [b.2.block k (Nat.lt_of_lt_of_le hk a.2.size) hne]
    exact a.2.block k hk hne

/-- The cells of element j of an owned slice, and that they may be written. -/
theorem OwnX.cells {w : World} {B g : Nat} {c : Nat} {xs : List (Int × Int)} (h : OwnX w B (some ⟨g, 0, none⟩) c xs) (j : Nat) (hj : j < xs.length) :
    (w.cell? ⟨g, j * 2, none⟩ = some (.int .i64 (xs.getD j (0, 0)).1) ∧ w.cell? ⟨g, j * 2 + 1, none⟩ = some (.int .i64 (xs.getD j (0, 0)).2)) ∧ w.frozen? ⟨g, j * 2, none⟩ = false ∧ w.frozen? ⟨g, j * 2 + 1, none⟩ = false := by
  have hf := flatX_get xs j hj
  refine ⟨⟨?_, ?_⟩, h.2.frozenAt _, h.2.frozenAt _⟩
  · rw [h.2.cellAt (j * 2) (by omega)]; exact hf.1
  · rw [h.2.cellAt (j * 2 + 1) (by omega)]; exact hf.2

/-- A boxed pair is there behind a callee that leaves old memory alone. -/
theorem box_keep {w w2 : World} {x y : Value} {t : TypeId} (hb : Below (w.alloc (.cells #[x, y] t)).heap.size (w.alloc (.cells #[x, y] t)) w2) :
    w2.cell? ⟨w.heap.size, 0, none⟩ = some x ∧ w2.cell? ⟨w.heap.size, 1, none⟩ = some y ∧ Below w.heap.size w w2 ∧ w.heap.size < w2.heap.size := by
  have hs : w.heap.size < (w.alloc (.cells #[x, y] t)).heap.size := by simp
  have hz := hb.size
  refine ⟨?_, ?_, ((Below.refl _ _).alloc (Nat.le_refl _) _).trans (hb.mono (by omega)), by omega⟩
  · rw [hb.cell (p := ⟨w.heap.size, 0, none⟩) hs, cell_of_row _ w.heap.size _ _ _ (0, 0) (heap_alloc_new w _)]; rfl
  · rw [hb.cell (p := ⟨w.heap.size, 1, none⟩) hs, cell_of_row _ w.heap.size _ _ _ (0, 0) (heap_alloc_new w _)]; rfl

end Go.Proofs.Ytajheicheefpeaa
