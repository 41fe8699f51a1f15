/- Plain lists: bytes as runs of equal ones. And linked lists of runs in memory. -/
import Derived.Test.YtbegmliglabpfaaBase
namespace Go.Proofs.Ytbegmliglabpfaa
open Go.RowKit
set_option linter.unusedVariables false

/-- One more byte. -/
def pushRun (ps : List (Int × Int)) (x : Int) : List (Int × Int) :=
  if ps ≠ [] ∧ (ps.getD (ps.length - 1) (0, 0)).2 = x then ps.set (ps.length - 1) ((ps.getD (ps.length - 1) (0, 0)).1 + 1, x) else ps ++ [(1, x)]

def runsP (zs : List Int) : List (Int × Int) := zs.foldl pushRun []
def flatP (ps : List (Int × Int)) : List Int := ps.flatMap fun p => [p.1, p.2]
def packL (zs : List Int) : List Int := flatP (runsP zs)

theorem flatP_length (ps : List (Int × Int)) : (flatP ps).length = 2 * ps.length := by
  induction ps with
  | nil => rfl
  | cons p ps ih => simp only [flatP, List.flatMap_cons, List.length_append, List.length_cons, List.length_nil] at *; omega

theorem flatP_append (ps qs : List (Int × Int)) : flatP (ps ++ qs) = flatP ps ++ flatP qs := by simp [flatP]

theorem runsP_succ {zs : List Int} {k : Nat} (h : k < zs.length) : runsP (zs.take (k + 1)) = pushRun (runsP (zs.take k)) (zs.getD k 0) := by
  rw [List.take_succ_eq_append_getElem h]
  have e : zs.getD k 0 = zs[k] := by simp [List.getD, h]
  simp only [runsP, List.foldl_append, List.foldl_cons, List.foldl_nil, e]

theorem pushRun_length (ps : List (Int × Int)) (x : Int) : ps.length ≤ (pushRun ps x).length ∧ (pushRun ps x).length ≤ ps.length + 1 ∧ 1 ≤ (pushRun ps x).length := by
  unfold pushRun
  split
  · rename_i h
    have : 0 < ps.length := List.length_pos_iff.2 h.1
    simp; omega
  · simp

theorem runsP_le (zs : List Int) : (runsP zs).length ≤ zs.length := by
  suffices h : ∀ (l : List Int) (ps : List (Int × Int)), (l.foldl pushRun ps).length ≤ ps.length + l.length by simpa [runsP] using h zs []
  intro l
  induction l with
  | nil => intro ps; simp
  | cons x l ih =>
    intro ps
    have := ih (pushRun ps x)
    have h := pushRun_length ps x
    simp only [List.foldl_cons, List.length_cons]
    omega

theorem getD_set_same {α : Type} (l : List α) (i : Nat) (x d : α) (h : i < l.length) : (l.set i x).getD i d = x := by
  rw [List.getD_eq_getElem?_getD, List.getElem?_set]
  simp [h]

/-- Pointer to the node behind the i-th. -/
def nextP (gs : List Nat) (i : Nat) : Option Addr := (gs[i + 1]?).map fun g => ⟨g, 0, none⟩

/-- The blocks gs are a linked list of the runs ps. -/
def Nodes (w : World) (B : Nat) (gs : List Nat) (ps : List (Int × Int)) : Prop :=
  gs.length = ps.length ∧ (∀ i, i < gs.length → B ≤ gs.getD i 0) ∧ (∀ i j, i < j → j < gs.length → gs.getD i 0 < gs.getD j 0) ∧
  ∀ i, i < ps.length → w.heap[gs.getD i 0]? = some (.cells #[.int .i64 (ps.getD i (0, 0)).1, .int .i64 (ps.getD i (0, 0)).2, .pointer (nextP gs i)] 42 (0, 0))

theorem Nodes.lt {w : World} {B : Nat} {gs : List Nat} {ps : List (Int × Int)} (h : Nodes w B gs ps) {i : Nat} (hi : i < ps.length) : gs.getD i 0 < w.heap.size :=
  (Array.getElem?_eq_some_iff.1 (h.2.2.2 i hi)).1

theorem Nodes.keep {w w' : World} {B : Nat} {gs : List Nat} {ps : List (Int × Int)} (h : Nodes w B gs ps) (hk : ∀ k, B ≤ k → k < w.heap.size → w'.heap[k]? = w.heap[k]?) : Nodes w' B gs ps :=
  ⟨h.1, h.2.1, h.2.2.1, fun i hi => (hk _ (h.2.1 i (by have := h.1; omega)) (h.lt hi)).trans (h.2.2.2 i hi)⟩

theorem Nodes.below {w w' : World} {B : Nat} {gs : List Nat} {ps : List (Int × Int)} (h : Nodes w B gs ps) (hb : Below w.heap.size w w') : Nodes w' B gs ps :=
  h.keep fun k _ hk => hb.block k hk

/-- The first node. -/
theorem Nodes.one (w : World) (B : Nat) (hB : B ≤ w.heap.size) (m v : Int) :
    Nodes (w.alloc (.cells #[.int .i64 m, .int .i64 v, .pointer none] 42)) B [w.heap.size] [(m, v)] := by
  refine ⟨rfl, fun i hi => ?_, fun i j hij hj => ?_, fun i hi => ?_⟩
  · simp at hi; subst hi; simpa using hB
  · simp at hj; omega
  · simp at hi; subst hi
    simpa [nextP] using heap_alloc_new w _

/-- The last run gets one byte more. -/
theorem Nodes.inc {w : World} {B : Nat} {gs : List Nat} {ps : List (Int × Int)} (h : Nodes w B gs ps) (h0 : 0 < ps.length) (m : Int) :
    Nodes (w.setCell ⟨gs.getD (ps.length - 1) 0, 0, none⟩ (.int .i64 m)) B gs (ps.set (ps.length - 1) (m, (ps.getD (ps.length - 1) (0, 0)).2)) := by
  refine ⟨by simpa using h.1, h.2.1, h.2.2.1, fun i hi => ?_⟩
  simp only [List.length_set] at hi
  by_cases hl : i = ps.length - 1
  · subst hl
    rw [heap_setCell_same w _ 0 _ _ _ (h.2.2.2 _ hi), getD_set_same _ _ _ _ hi]
    rfl
  · have hne : gs.getD i 0 ≠ gs.getD (ps.length - 1) 0 := by
      have := h.2.2.1 i (ps.length - 1) (by omega) (by have := h.1; omega)
      omega
    rw [Below.heap_setCell _ _ _ _ hne, h.2.2.2 i hi]
    have hne' : ps.length - 1 ≠ i := fun e => hl e.symm
    simp [List.getD_eq_getElem?_getD, hne']

/-- One more run. -/
theorem Nodes.push {w : World} {B : Nat} {gs : List Nat} {ps : List (Int × Int)} (h : Nodes w B gs ps) (h0 : 0 < ps.length) (m v : Int) :
    Nodes ((w.alloc (.cells #[.int .i64 m, .int .i64 v, .pointer none] 42)).setCell ⟨gs.getD (ps.length - 1) 0, 2, none⟩ (.pointer (some ⟨w.heap.size, 0, none⟩))) B (gs ++ [w.heap.size]) (ps ++ [(m, v)]) := by
  have hl := h.1
  have hlast := h.lt (i := ps.length - 1) (by omega)
  have hB : B ≤ w.heap.size := by have := h.2.1 0 (by omega); have := h.lt h0; omega
  refine ⟨by simp [hl], fun i hi => ?_, fun i j hij hj => ?_, fun i hi => ?_⟩
  · simp only [List.length_append, List.length_cons, List.length_nil] at hi
    by_cases hlt : i < gs.length
    · simpa [List.getD_eq_getElem?_getD, List.getElem?_append, hlt] using h.2.1 i hlt
    · have : i = gs.length := by omega
      subst this
      simpa [List.getD_eq_getElem?_getD] using hB
  · simp only [List.length_append, List.length_cons, List.length_nil] at hj
    by_cases hlt : j < gs.length
    · have := h.2.2.1 i j hij hlt
      simpa [List.getD_eq_getElem?_getD, List.getElem?_append, hlt, show i < gs.length by omega] using this
    · have : j = gs.length := by omega
      subst this
      have := h.lt (i := i) (by omega)
      simpa [List.getD_eq_getElem?_getD, List.getElem?_append, hij] using this
  · simp only [List.length_append, List.length_cons, List.length_nil] at hi
    by_cases hlt : i < ps.length
    · have e1 : (gs ++ [w.heap.size]).getD i 0 = gs.getD i 0 := by simp [List.getD_eq_getElem?_getD, List.getElem?_append, hl, hlt]
      have e2 : (ps ++ [(m, v)]).getD i (0, 0) = ps.getD i (0, 0) := by simp [List.getD_eq_getElem?_getD, List.getElem?_append, hlt]
      rw [e1, e2]
      by_cases hi' : i = ps.length - 1
      · subst hi'
        have hb : (w.alloc (.cells #[.int .i64 m, .int .i64 v, .pointer none] 42)).heap[gs.getD (ps.length - 1) 0]? = _ := (Below.heap_alloc w _ _ hlast).trans (h.2.2.2 _ hlt)
        rw [heap_setCell_same _ _ 2 _ _ _ hb]
        have hn : nextP (gs ++ [w.heap.size]) (ps.length - 1) = some ⟨w.heap.size, 0, none⟩ := by
          simp [nextP, show ps.length - 1 + 1 = gs.length by omega]
        rw [hn]
        rfl
      · have hne : gs.getD i 0 ≠ gs.getD (ps.length - 1) 0 := by
          have := h.2.2.1 i (ps.length - 1) (by omega) (by omega)
          omega
        rw [Below.heap_setCell _ _ _ _ hne, Below.heap_alloc w _ _ (h.lt hlt), h.2.2.2 i hlt]
        have hn : nextP (gs ++ [w.heap.size]) i = nextP gs i := by
          simp [nextP, List.getElem?_append, show i + 1 < gs.length by omega]
        rw [hn]
    · have : i = ps.length := by omega
      subst this
      have e1 : (gs ++ [w.heap.size]).getD ps.length 0 = w.heap.size := by simp [List.getD_eq_getElem?_getD, ← hl]
      have e2 : (ps ++ [(m, v)]).getD ps.length (0, 0) = (m, v) := by simp [List.getD_eq_getElem?_getD]
      rw [e1, e2, Below.heap_setCell _ _ _ _ (by show w.heap.size ≠ gs.getD _ 0; omega), heap_alloc_new w _]
      have hn : nextP (gs ++ [w.heap.size]) ps.length = none := by
        simp [nextP, ← hl]
      rw [hn]

end Go.Proofs.Ytbegmliglabpfaa
