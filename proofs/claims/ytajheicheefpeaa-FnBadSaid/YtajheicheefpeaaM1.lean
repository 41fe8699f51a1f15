import Derived.Test.YtajheicheefpeaaChecked
import Derived.WalkKit
import Derived.WalkLawsBesides
import Derived.WalkSpells
import Derived.Lib.Hide
import Derived.Below
import Derived.ProofKit
import Derived.OpenShut
import Derived.ShutString
import Derived.ChangeOld
import Derived.Deep.SlicePairs
import Derived.OwnWalk
import Derived.BigQuiet
import Derived.Deep.QuietTactic
import Derived.Outline
import Derived.StillTailTactics
import Derived.IntWalk
import Derived.Deep.RegionWith
import Derived.Deep.Draws
/- Readings of slices of ints, shared by all walks of this seat: what a slice reads as, and that it reads so behind later blocks. -/
namespace Go.Proofs.Ytajheicheefpeaa
open Go.RowKit

/-- The first n cells from a on read as the ints zs. -/
def RdI (w : World) (a : Option Addr) (n : Nat) (zs : List Int) : Prop :=
  zs.length = n ∧ ∀ i, i < n → ∃ b off, a = some ⟨b, off, none⟩ ∧ b < w.heap.size ∧ ∀ j, j < n → w.cell? ⟨b, off + j, none⟩ = some (.int .i64 (zs.getD j 0))

/-- All numbers fit an int. -/
def WfI (zs : List Int) : Prop := ∀ z ∈ zs, -9223372036854775808 ≤ z ∧ z ≤ 9223372036854775807

theorem RdI.below {w w' : World} {a : Option Addr} {n : Nat} {zs : List Int} (h : RdI w a n zs) (hb : Below w.heap.size w w') : RdI w' a n zs := by
  refine ⟨h.1, fun i hi => ?_⟩
  obtain ⟨b, off, rfl, hlt, hc⟩ := h.2 i hi
  exact ⟨b, off, rfl, Nat.lt_of_lt_of_le hlt hb.size, fun j hj => (hb.cell (p := ⟨b, off + j, none⟩) hlt).trans (hc j hj)⟩

theorem RdI.at_ {w : World} {a : Option Addr} {n : Nat} {zs : List Int} (h : RdI w a n zs) {i : Nat} (hi : i < n) :
    ∃ b off, a = some ⟨b, off, none⟩ ∧ ∃ x, x = zs.getD i 0 ∧ w.cell? ⟨b, off + i, none⟩ = some (.int .i64 x) := by
  obtain ⟨b, off, rfl, _, hc⟩ := h.2 i hi
  exact ⟨b, off, rfl, _, rfl, hc i hi⟩

theorem WfI.at_ {zs : List Int} (h : WfI zs) {i : Nat} (hi : i < zs.length) : -9223372036854775808 ≤ zs.getD i 0 ∧ zs.getD i 0 ≤ 9223372036854775807 := by
  have : zs.getD i 0 = zs[i] := by simp [List.getD, hi]
  rw [this]
  exact h _ (List.getElem_mem hi)

theorem RdI.wf_eq {w : World} {a : Option Addr} {n : Nat} {zs : List Int} (h : RdI w a n zs) : zs.length = n := h.1

/-- A slice of ints of the call's own: it lies in blocks from B on (or is nil). -/
def OwnI (w : World) (B : Nat) (a : Option Addr) (c : Nat) (zs : List Int) : Prop :=
  WfI zs ∧ w.ownsRow B 3 1 (.slice a zs.length c) zs.length (zs.map (Value.int .i64))

theorem info_int : (Try.prog.info? 3).map (fun i => (i.zero, i.size, i.bytes)) = some (some (.int .i64 0), 1, 8) := by kernel_rfl

theorem getElem?_ints (zs : List Int) (j : Nat) (h : j < zs.length) : (zs.map (Value.int .i64))[j]? = some (.int .i64 (zs.getD j 0)) := by
  simp [h]

theorem OwnI.rd {w : World} {B : Nat} {a : Option Addr} {c : Nat} {zs : List Int} (h : OwnI w B a c zs) : RdI w a zs.length zs := by
  refine ⟨rfl, fun i hi => ?_⟩
  rcases h.2.2 with ⟨h', h0⟩ | ⟨g, cap, cur, h', hb, hg, hnc, hcm, hcs, htake⟩
  · omega
  · injection h' with h1 h2 h3
    subst h1
    refine ⟨g, 0, rfl, (Array.getElem?_eq_some_iff.1 hg).1, fun j hj => ?_⟩
    rw [Nat.zero_add, cell_of_row w g j cur 3 (0, 0) hg]
    have := getElem?_ints zs j hj
    rw [← htake, List.getElem?_take] at this
    simpa [hj] using this

/-- What is owned from B on is owned behind whatever leaves all blocks alone that were there. -/
theorem OwnI.below {w w' : World} {B : Nat} {a : Option Addr} {c : Nat} {zs : List Int} (h : OwnI w B a c zs) (hb : Below w.heap.size w w') : OwnI w' B a c zs :=
  ⟨h.1, h.2.kept (row := none) ⟨hb.os, hb.tape, hb.output, hb.size, fun k hk _ => hb.block k hk⟩ (by cases hv : (Value.slice a zs.length c).ownBlock <;> simp)⟩

theorem OwnI.mono {w : World} {B B' : Nat} {a : Option Addr} {c : Nat} {zs : List Int} (h : OwnI w B a c zs) (hB : B' ≤ B) : OwnI w B' a c zs := by
  refine ⟨h.1, h.2.1, ?_⟩
  rcases h.2.2 with h0 | ⟨g, cap, cur, h', hb, hr⟩
  · exact .inl h0
  · exact .inr ⟨g, cap, cur, h', Nat.le_trans hB hb, hr⟩

/-- A code reads as bytes (ints of 8 bits). -/
def RdC (w : World) (a : Option Addr) (n : Nat) : Prop :=
  ∀ i, i < n → ∃ b off, a = some ⟨b, off, none⟩ ∧ b < w.heap.size ∧ ∀ j, j < n → ∃ y : Int, 0 ≤ y ∧ y ≤ 255 ∧ w.cell? ⟨b, off + j, none⟩ = some (.int .u8 y)

theorem RdC.less {w : World} {a : Option Addr} {n m : Nat} (h : RdC w a n) (hm : m ≤ n) : RdC w a m := by
  intro i hi
  obtain ⟨b, off, rfl, hlt, hc⟩ := h i (by omega)
  exact ⟨b, off, rfl, hlt, fun j hj => hc j (by omega)⟩

theorem RdC.below {w w' : World} {a : Option Addr} {n : Nat} (h : RdC w a n) (hb : Below w.heap.size w w') : RdC w' a n := by
  intro i hi
  obtain ⟨b, off, rfl, hlt, hc⟩ := h i hi
  refine ⟨b, off, rfl, Nat.lt_of_lt_of_le hlt hb.size, fun j hj => ?_⟩
  obtain ⟨y, h1, h2, h3⟩ := hc j hj
  exact ⟨y, h1, h2, (hb.cell (p := ⟨b, off + j, none⟩) hlt).trans h3⟩


end Go.Proofs.Ytajheicheefpeaa

/- Opening of a law's arguments: what a slice of ints, or of bytes, that came in reads as. -/
namespace Go.Proofs.Ytajheicheefpeaa
set_option maxRecDepth 100000
open Go.ChangeShapes Go.WideShapes Go.ChangeAt Go.RowKit Go.Deep
open Go.ChangeMaps (open_string shut_string)

theorem own : ownKnob Try.prog.godebug = none := by kernel_rfl
theorem laidOut : laidOutB Try.prog = true := by kernel_rfl
theorem cells_int : Try.prog.cellsOf 3 = 1 := by kernel_rfl

theorem openI {H : Type} {enc : TypeId × Value → H} {W : World} {base : Nat} {v : Value} {d : DataW H} {p : List MemPlace}
    (hv : Value.okWide Try.prog W .any base 36 v) (h : DataW.Trod enc Try.prog W 0 (fun _ => true) true 36 v d p) :
    ∃ a n c zs, v = .slice a n c ∧ RdI W a n zs ∧ WfI zs ∧ n ≤ maxLen := by
  obtain ⟨a0, len0, cap0, rfl⟩ := okWide_slice Try.underlying36 hv
  obtain ⟨fuel, hf⟩ := h
  rcases open_ints Try.underlying36 Try.underlying3 cells_int hf with ⟨hcs, _⟩ | ⟨x, l, c, zs, hcs, _, hl, hm, hz, _, hcell, hwz⟩
  · simp [Value.cells] at hcs
    obtain ⟨rfl, rfl, rfl⟩ := hcs
    exact ⟨_, _, _, [], rfl, ⟨rfl, fun i hi => absurd hi (by omega)⟩, (by intro z hz; cases hz), Nat.zero_le _⟩
  · simp [Value.cells] at hcs
    obtain ⟨rfl, rfl, rfl⟩ := hcs
    simp at hz
    refine ⟨_, _, _, zs.take len0, rfl, ⟨by simp; omega, fun i hi => ?_⟩, fun z hz' => ?_, by omega⟩
    · obtain ⟨b, off, spot⟩ := x
      have hc := hcell 0 (by omega)
      have hspot : spot = none := by simpa [Addr.add] using World.cell?_spot hc
      subst hspot
      refine ⟨b, off, rfl, World.block_lt_of_cell? _ _ hc, fun j hj => ?_⟩
      have hc := hcell j (by omega)
      simp only [List.getD_eq_getElem?_getD, List.getElem?_take, hj, if_true]
      simpa [Addr.add_lit] using hc
    · have := hwz z (List.mem_of_mem_take hz')
      exact ⟨by have h := this; simp [Lit.wf] at h; exact h.1, by have h := this; simp [Lit.wf] at h; exact h.2⟩


theorem cells_str : Try.prog.cellsOf 9 = 1 := by kernel_rfl




theorem cells_u8 : Try.prog.cellsOf 5 = 1 := by kernel_rfl
theorem openB {H : Type} {enc : TypeId × Value → H} {W : World} {base : Nat} {v : Value} {d : DataW H} {p : List MemPlace}
    (hv : Value.okWide Try.prog W .any base 42 v) (h : DataW.Trod enc Try.prog W 0 (fun _ => true) true 42 v d p) :
    ∃ a n c, v = .slice a n c ∧ RdC W a n ∧ n ≤ c ∧ c ≤ maxLen := by
  obtain ⟨a0, len0, cap0, rfl⟩ := okWide_slice Try.underlying42 hv
  obtain ⟨fuel, hf⟩ := h
  rcases open_ints Try.underlying42 Try.underlying5 cells_u8 hf with ⟨hcs, _⟩ | ⟨x, l, c, zs, hcs, _, hl, hm, hz, _, hcell, hwz⟩
  · simp [Value.cells] at hcs
    obtain ⟨rfl, rfl, rfl⟩ := hcs
    exact ⟨_, _, _, rfl, fun i hi => absurd hi (by omega), Nat.le_refl _, Nat.zero_le _⟩
  · simp [Value.cells] at hcs
    obtain ⟨rfl, rfl, rfl⟩ := hcs
    simp at hz
    refine ⟨_, _, _, rfl, fun i hi => ?_, hl, hm⟩
    obtain ⟨b, off, spot⟩ := x
    have hc := hcell 0 (by omega)
    have hspot : spot = none := by simpa [Addr.add] using World.cell?_spot hc
    subst hspot
    refine ⟨b, off, rfl, World.block_lt_of_cell? _ _ hc, fun j hj => ⟨zs.getD j 0, ?_⟩⟩
    have hc := hcell j (by omega)
    have hw := hwz (zs.getD j 0) (by rw [List.getD_eq_getElem?_getD, List.getElem?_eq_getElem (by omega)]; exact List.getElem_mem _)
    simp [Lit.wf] at hw
    simp only [Addr.add_lit] at hc
    exact ⟨by have := hw.1; simpa [IntKind.min, IntKind.signed] using this, by have := hw.2; simpa [IntKind.max, IntKind.signed, IntKind.bits] using this, hc⟩

end Go.Proofs.Ytajheicheefpeaa

/- Rows of elements of several cells: what a slice of them reads as, that it is the call's own, a store of an element, append, make. -/
namespace Go.Proofs.Ytajheicheefpeaa
open Go.RowKit
set_option linter.unusedVariables false

/-- A kind of element: its type, the slice's type, how many cells it has, and which. -/
structure Elt (α : Type) where
  ty : TypeId
  sl : TypeId
  m : Nat
  bytes : Nat
  z : Value
  enc : α → List Value
  pos : 0 < m
  len : ∀ x, (enc x).length = m
  one : ∀ x, ∀ v ∈ enc x, v.oneCell' = true
  under : Try.prog.underlying sl = some (.slice ty)
  info : (Try.prog.info? ty).map (fun i => (i.zero, i.size, i.bytes)) = some (some z, m, bytes)
  zcells : z.cells.size = m
  small : bytes ≤ 128

/-- All cells of some elements. -/
def Elt.flat {α : Type} (E : Elt α) (xs : List α) : List Value := xs.flatMap E.enc

theorem Elt.flat_cons {α : Type} (E : Elt α) (x : α) (xs : List α) : E.flat (x :: xs) = E.enc x ++ E.flat xs := by simp [Elt.flat]

theorem Elt.flat_length {α : Type} (E : Elt α) (xs : List α) : (E.flat xs).length = xs.length * E.m := by
  induction xs with
  | nil => simp [Elt.flat]
  | cons x xs ih => rw [E.flat_cons, List.length_append, ih, E.len, List.length_cons, Nat.add_mul]; omega

theorem Elt.flat_append {α : Type} (E : Elt α) (xs ys : List α) : E.flat (xs ++ ys) = E.flat xs ++ E.flat ys := by simp [Elt.flat]

theorem Elt.flat_get {α : Type} (E : Elt α) (xs : List α) (j k : Nat) (x : α) (u : Value) (hx : xs[j]? = some x) (hu : (E.enc x)[k]? = some u) : (E.flat xs)[j * E.m + k]? = some u := by
  have hk : k < E.m := by rw [← E.len x]; exact (List.getElem?_eq_some_iff.1 hu).1
  induction xs generalizing j with
  | nil => simp at hx
  | cons p ps ih =>
    rw [E.flat_cons]
    cases j with
    | zero =>
      simp only [List.getElem?_cons_zero, Option.some.injEq] at hx
      subst hx
      rw [Nat.zero_mul, Nat.zero_add, List.getElem?_append_left (by rw [E.len]; exact hk)]
      exact hu
    | succ j =>
      have := ih j (by simpa using hx)
      rw [Nat.add_mul, List.getElem?_append_right (by rw [E.len]; omega), E.len, show j * E.m + 1 * E.m + k - E.m = j * E.m + k by omega]
      exact this

theorem Elt.flat_one {α : Type} (E : Elt α) (xs : List α) : ∀ v ∈ E.flat xs, v.oneCell' = true := by
  intro v hv
  simp only [Elt.flat, List.mem_flatMap] at hv
  obtain ⟨x, _, hx⟩ := hv
  exact E.one x v hx

/-- The first n elements from a on read as the xs. -/
def RdR {α : Type} (E : Elt α) (w : World) (a : Option Addr) (n : Nat) (xs : List α) : Prop :=
  xs.length = n ∧ ∀ i, i < n → ∃ b off, a = some ⟨b, off, none⟩ ∧ b < w.heap.size ∧
    ∀ j x, xs[j]? = some x → ∀ k u, (E.enc x)[k]? = some u → w.cell? ⟨b, off + j * E.m + k, none⟩ = some u

theorem RdR.below {α : Type} {E : Elt α} {w w' : World} {a : Option Addr} {n : Nat} {xs : List α} (h : RdR E w a n xs) (hb : Below w.heap.size w w') : RdR E w' a n xs := by
  refine ⟨h.1, fun i hi => ?_⟩
  obtain ⟨b, off, rfl, hlt, hc⟩ := h.2 i hi
  exact ⟨b, off, rfl, Nat.lt_of_lt_of_le hlt hb.size, fun j x hx k u hu => (hb.cell (p := ⟨b, off + j * E.m + k, none⟩) hlt).trans (hc j x hx k u hu)⟩

theorem RdR.drewN {α : Type} {E : Elt α} {w : World} {a : Option Addr} {n : Nat} {xs : List α} (h : RdR E w a n xs) (k : Nat) : RdR E (w.drewN k) a n xs := h

theorem RdR.at_ {α : Type} {E : Elt α} {w : World} {a : Option Addr} {n : Nat} {xs : List α} (h : RdR E w a n xs) {i : Nat} (hi : i < n) :
    ∃ b off x, a = some ⟨b, off, none⟩ ∧ b < w.heap.size ∧ xs[i]? = some x ∧ ∀ k u, (E.enc x)[k]? = some u → w.cell? ⟨b, off + i * E.m + k, none⟩ = some u := by
  obtain ⟨b, off, rfl, hlt, hc⟩ := h.2 i hi
  have hl : i < xs.length := by rw [h.1]; exact hi
  exact ⟨b, off, xs[i], rfl, hlt, List.getElem?_eq_getElem hl, hc i _ (List.getElem?_eq_getElem hl)⟩

theorem RdR.pre {α : Type} {E : Elt α} {w : World} {a : Option Addr} {n m : Nat} {xs : List α} (h : RdR E w a n xs) (hm : m ≤ n) : RdR E w a m (xs.take m) := by
  refine ⟨by rw [List.length_take, h.1]; omega, fun i hi => ?_⟩
  obtain ⟨b, off, rfl, hlt, hc⟩ := h.2 i (by omega)
  refine ⟨b, off, rfl, hlt, fun j x hx => hc j x ?_⟩
  rw [List.getElem?_take] at hx
  split at hx
  · exact hx
  · cases hx

theorem RdR.suf {α : Type} {E : Elt α} {w : World} {b off : Nat} {n m : Nat} {xs : List α} (h : RdR E w (some ⟨b, off, none⟩) n xs) (hm : m ≤ n) : RdR E w (some ⟨b, off + m * E.m, none⟩) (n - m) (xs.drop m) := by
  refine ⟨by rw [List.length_drop, h.1], fun i hi => ?_⟩
  obtain ⟨b', off', e, hlt, hc⟩ := h.2 i (by omega)
  injection e with e
  injection e with e1 e2
  subst e1 e2
  refine ⟨b, off + m * E.m, rfl, hlt, fun j x hx k u hu => ?_⟩
  rw [List.getElem?_drop] at hx
  have := hc (m + j) x hx k u hu
  rwa [Nat.add_mul, ← Nat.add_assoc] at this

/-- A slice of the call's own: it lies in a block from B on (or is nil). -/
def OwnR {α : Type} (E : Elt α) (w : World) (B : Nat) (a : Option Addr) (c : Nat) (xs : List α) : Prop :=
  w.ownsRow B E.ty E.m (.slice a xs.length c) xs.length (E.flat xs)

theorem OwnR.rd {α : Type} {E : Elt α} {w : World} {B : Nat} {a : Option Addr} {c : Nat} {xs : List α} (h : OwnR E w B a c xs) : RdR E w a xs.length xs := by
  refine ⟨rfl, fun i hi => ?_⟩
  rcases h.2 with ⟨h', h0⟩ | ⟨g, cap, cur, h', hb, hg, hnc, hcm, hcs, htake⟩
  · omega
  · injection h' with h1 h2 h3
    subst h1
    refine ⟨g, 0, rfl, (Array.getElem?_eq_some_iff.1 hg).1, fun j x hx k u hu => ?_⟩
    have hf := E.flat_get xs j k x u hx hu
    have hlt : j * E.m + k < xs.length * E.m := by rw [← E.flat_length]; exact (List.getElem?_eq_some_iff.1 hf).1
    rw [Nat.zero_add, cell_of_row w g _ cur _ (0, 0) hg]
    rw [← htake, List.getElem?_take, if_pos hlt] at hf
    simpa using hf

theorem OwnR.below {α : Type} {E : Elt α} {w w' : World} {B : Nat} {a : Option Addr} {c : Nat} {xs : List α} (h : OwnR E w B a c xs) (hb : Below w.heap.size w w') : OwnR E w' B a c xs :=
  World.ownsRow.kept h (row := none) ⟨hb.os, hb.tape, hb.output, hb.size, fun k hk _ => hb.block k hk⟩ (by cases hv : (Value.slice a xs.length c).ownBlock <;> simp)

theorem OwnR.mono {α : Type} {E : Elt α} {w : World} {B B' : Nat} {a : Option Addr} {c : Nat} {xs : List α} (h : OwnR E w B a c xs) (hB : B' ≤ B) : OwnR E w B' a c xs := by
  refine ⟨h.1, ?_⟩
  rcases h.2 with h0 | ⟨g, cap, cur, h', hb, hr⟩
  · exact .inl h0
  · exact .inr ⟨g, cap, cur, h', Nat.le_trans hB hb, hr⟩

theorem OwnR.alloc {α : Type} {E : Elt α} {w : World} {B : Nat} {a : Option Addr} {c : Nat} {xs : List α} (h : OwnR E w B a c xs) (o : Obj) : OwnR E (w.alloc o) B a c xs := World.ownsRow.alloc h o
theorem OwnR.drew {α : Type} {E : Elt α} {w : World} {B : Nat} {a : Option Addr} {c : Nat} {xs : List α} (h : OwnR E w B a c xs) : OwnR E w.drew B a c xs := h
theorem OwnR.drewN {α : Type} {E : Elt α} {w : World} {B : Nat} {a : Option Addr} {c : Nat} {xs : List α} (h : OwnR E w B a c xs) (k : Nat) : OwnR E (w.drewN k) B a c xs := h
theorem OwnR.nil {α : Type} (E : Elt α) (w : World) (B : Nat) : OwnR E w B none 0 [] := World.ownsRow_nil w B _ _
theorem OwnR.empty {α : Type} (E : Elt α) {w : World} {B : Nat} (hB : B ≤ w.heap.size) : OwnR E (w.alloc (.cells #[] E.ty)) B (some ⟨w.heap.size, 0, none⟩) 0 [] := World.ownsRow_made w #[] 0 hB (Nat.zero_le _) (by simp)

theorem OwnR.cap {α : Type} {E : Elt α} {w : World} {B : Nat} {a : Option Addr} {c : Nat} {xs : List α} (h : OwnR E w B a c xs) : xs.length ≤ c ∧ c ≤ maxLen := by
  rcases h.2 with ⟨h1, h0⟩ | ⟨g, cap, cur, hv, hb, hg, hnc, hcm, _⟩
  · injection h1 with _ _ h3
    omega
  · injection hv with _ _ h3
    omega

theorem OwnR.head {α : Type} {E : Elt α} {w : World} {B : Nat} {a : Option Addr} {c : Nat} {xs : List α} (h : OwnR E w B a c xs) (h0 : 0 < xs.length) : ∃ g, a = some ⟨g, 0, none⟩ ∧ B ≤ g ∧ g < w.heap.size := by
  rcases h.2 with ⟨_, h'⟩ | ⟨g, cap, cur, hv, hb, hg, _⟩
  · omega
  · injection hv with hv
    exact ⟨g, hv, hb, (Array.getElem?_eq_some_iff.1 hg).1⟩

theorem OwnR.lt {α : Type} {E : Elt α} {w : World} {B : Nat} {a : Option Addr} {c : Nat} {xs : List α} (h : OwnR E w B a c xs) : ∀ k, (Value.slice a xs.length c).ownBlock = some k → B ≤ k ∧ k < w.heap.size := fun k hk => World.ownsRow.lt h k hk

theorem OwnR.apart {α : Type} {E : Elt α} {w w' : World} {B : Nat} {a : Option Addr} {c : Nat} {xs : List α} (h : OwnR E w B a c xs) {row : Option Nat} (hg : w.grownBy w' row)
    (hne : ∀ k, (Value.slice a xs.length c).ownBlock = some k → ∀ r, row = some r → k ≠ r) : OwnR E w' B a c xs := by
  refine World.ownsRow.kept h hg ?_
  cases hv : (Value.slice a xs.length c).ownBlock with
  | none => exact .inl rfl
  | some k => exact .inr (fun e => hne k hv k e.symm rfl)

theorem OwnR.grown {α : Type} {E : Elt α} {w w' : World} {B : Nat} {a : Option Addr} {c g : Nat} {xs : List α} (h : OwnR E w B a c xs) (hg : w.grownBy w' (some g)) (hB : g < B) : OwnR E w' B a c xs :=
  h.apart hg (fun k hk r hr => by injection hr with hr; have := (h.lt k hk).1; omega)

theorem own_rowR {α : Type} {E : Elt α} {w : World} {B g : Nat} {a : Option Addr} {c : Nat} {xs : List α} (h : OwnR E w B a c xs) (hB : g < B) : ∀ r, (Value.slice a xs.length c).ownBlock = some r → g < r ∧ B ≤ r := by
  intro r hr
  have := (h.lt r hr).1
  omega

/-- The cells of an element of an owned slice, and that they may be written. -/
theorem OwnR.cellAt {α : Type} {E : Elt α} {w : World} {B g : Nat} {c : Nat} {xs : List α} (h : OwnR E w B (some ⟨g, 0, none⟩) c xs) {j : Nat} {x : α} (hx : xs[j]? = some x) {k : Nat} {u : Value} (hu : (E.enc x)[k]? = some u) :
    w.cell? ⟨g, j * E.m + k, none⟩ = some u ∧ w.frozen? ⟨g, j * E.m + k, none⟩ = false := by
  have hf := E.flat_get xs j k x u hx hu
  have hlt : j * E.m + k < xs.length * E.m := by rw [← E.flat_length]; exact (List.getElem?_eq_some_iff.1 hf).1
  exact ⟨(World.ownsRow.cellAt h _ hlt).trans hf, World.ownsRow.frozenAt h _⟩

/-- Several cells are written, one behind the other. -/
def setRun (w : World) (g p : Nat) : List Value → World
  | [] => w
  | v :: vs => setRun (w.setCell ⟨g, p, none⟩ v) g (p + 1) vs

def splice (xs : List Value) (p : Nat) : List Value → List Value
  | [] => xs
  | v :: vs => splice (xs.set p v) (p + 1) vs

theorem splice_right (l r : List Value) (p : Nat) (vs : List Value) : splice (l ++ r) (l.length + p) vs = l ++ splice r p vs := by
  induction vs generalizing r p with
  | nil => rfl
  | cons v vs ih =>
    unfold splice
    rw [List.set_append_right (h := by omega), show l.length + p - l.length = p by omega, Nat.add_assoc, ih]

theorem splice_mid (a l r vs : List Value) (h : vs.length = l.length) : splice (a ++ l ++ r) a.length vs = a ++ vs ++ r := by
  induction vs generalizing a l with
  | nil =>
    have : l = [] := List.length_eq_zero_iff.1 h.symm
    subst this; rfl
  | cons v vs ih =>
    cases l with
    | nil => simp at h
    | cons x l =>
      unfold splice
      have e : (a ++ x :: l ++ r).set a.length v = (a ++ [v]) ++ l ++ r := by
        rw [List.append_assoc, List.set_append_right (h := Nat.le_refl _), Nat.sub_self]
        simp
      rw [e, show a.length + 1 = (a ++ [v]).length by simp, ih (a ++ [v]) l (by simpa using h)]
      simp

theorem Elt.flat_set {α : Type} (E : Elt α) (xs : List α) (j : Nat) (hj : j < xs.length) (y : α) : splice (E.flat xs) (j * E.m) (E.enc y) = E.flat (xs.set j y) := by
  induction xs generalizing j with
  | nil => simp at hj
  | cons x xs ih =>
    cases j with
    | zero =>
      rw [List.set_cons_zero, E.flat_cons, E.flat_cons, Nat.zero_mul]
      have := splice_mid [] (E.enc x) (E.flat xs) (E.enc y) (by rw [E.len, E.len])
      simpa using this
    | succ j =>
      rw [List.set_cons_succ, E.flat_cons, E.flat_cons, ← ih j (by simpa using hj), Nat.add_mul, Nat.one_mul, Nat.add_comm, ← E.len x, splice_right]

theorem ownsRow_setRun {base size : Nat} {e : TypeId} {g n cap : Nat} (vs : List Value) : ∀ {w : World} {xs : List Value} (p : Nat), w.ownsRow base e size (.slice (some ⟨g, 0, none⟩) n cap) n xs →
    (setRun w g p vs).ownsRow base e size (.slice (some ⟨g, 0, none⟩) n cap) n (splice xs p vs) ∧ w.grownBy (setRun w g p vs) (some g) := by
  induction vs with
  | nil => intro w xs p h; exact ⟨h, World.grownBy.refl _ _⟩
  | cons v vs ih =>
    intro w xs p h
    obtain ⟨h1, h2⟩ := h.stored p v
    obtain ⟨h3, h4⟩ := ih (p + 1) h1
    exact ⟨h3, ⟨h4.os.trans h2.os, h4.tape.trans h2.tape, h4.output.trans h2.output, Nat.le_trans h2.size h4.size, fun i hi hn => (h4.block i (Nat.lt_of_lt_of_le hi h2.size) hn).trans (h2.block i hi hn)⟩⟩

/-- All cells of element j are written. -/
theorem OwnR.set {α : Type} {E : Elt α} {w : World} {B g : Nat} {c : Nat} {xs : List α} (h : OwnR E w B (some ⟨g, 0, none⟩) c xs) (j : Nat) (hj : j < xs.length) (y : α) :
    OwnR E (setRun w g (j * E.m) (E.enc y)) B (some ⟨g, 0, none⟩) c (xs.set j y) ∧ w.grownBy (setRun w g (j * E.m) (E.enc y)) (some g) := by
  have := ownsRow_setRun (E.enc y) (j * E.m) h
  rw [E.flat_set xs j hj y] at this
  unfold OwnR
  rw [List.length_set]
  exact this

/-- One cell of element j is written. -/
theorem OwnR.set1 {α : Type} {E : Elt α} {w : World} {B g : Nat} {c : Nat} {xs : List α} (h : OwnR E w B (some ⟨g, 0, none⟩) c xs) (j : Nat) (x y : α) (hx : xs[j]? = some x) (k : Nat) (u : Value) (hk : k < E.m) (hy : E.enc y = (E.enc x).set k u) :
    OwnR E (w.setCell ⟨g, j * E.m + k, none⟩ u) B (some ⟨g, 0, none⟩) c (xs.set j y) ∧ w.grownBy (w.setCell ⟨g, j * E.m + k, none⟩ u) (some g) := by
  have hst := World.ownsRow.stored h (j * E.m + k) u
  have hj : j < xs.length := (List.getElem?_eq_some_iff.1 hx).1
  refine ⟨?_, hst.2⟩
  have e : E.flat (xs.set j y) = (E.flat xs).set (j * E.m + k) u := by
    clear hst h
    induction xs generalizing j with
    | nil => simp at hj
    | cons p ps ih =>
      cases j with
      | zero =>
        simp only [List.getElem?_cons_zero, Option.some.injEq] at hx
        subst hx
        rw [List.set_cons_zero, E.flat_cons, E.flat_cons, hy, Nat.zero_mul, Nat.zero_add, List.set_append_left _ _ (by rw [E.len]; exact hk)]
      | succ j =>
        have := ih j (by simpa using hx) (by simpa using hj)
        rw [List.set_cons_succ, E.flat_cons, E.flat_cons, this, Nat.add_mul, List.set_append_right (h := by rw [E.len]; omega), E.len, show j * E.m + 1 * E.m + k - E.m = j * E.m + k by omega]
  unfold OwnR
  rw [List.length_set, e]
  exact hst.1

theorem own_formR {w : World} {base : Nat} {e : TypeId} {size : Nat} {v : Value} {n : Nat} {xs : List Value} (h : w.ownsRow base e size v n xs) : ∃ a c, v = .slice a n c ∧ n ≤ c ∧ c ≤ maxLen := by
  rcases h.2 with ⟨rfl, rfl⟩ | ⟨g, cap, cur, rfl, _, _, hc, hm, _⟩
  · exact ⟨_, _, rfl, Nat.le_refl _, Nat.zero_le _⟩
  · exact ⟨_, _, rfl, hc, hm⟩

/-- 'append(out, xs...)', out a slice of the call's own, the source at an address. -/
theorem wp_appR {α : Type} (E : Elt α) {ops : Array Oper} {rest : List Oper} {o : Oper} {act : Act} {Q : Exit → Act → World → Prop} (hgd : o.guard = none) (s x : Operand)
    (ho : o.op = .call { callee := .builtin .append, args := #[s, x], argTypes := #[E.sl, E.sl] })
    {W : World} {B : Nat} {a0 : Option Addr} {c0 L : Nat} {zs : List α} (hL : zs.length = L) (hs : act.eval s = .slice a0 L c0) (hO : OwnR E W B a0 c0 zs)
    (ad : Addr) (m c : Nat) (news : List α) (hx : act.eval x = .slice (some ad) m c) (hm : news.length = m)
    (hnews : ∀ j u, (E.flat news)[j]? = some u → W.cell? (ad.add j) = some u) (hlen : L + m ≤ 1099511627776) (hB : B ≤ W.heap.size)
    (h : ∀ a' c' w', OwnR E w' B a' c' (zs ++ news) → W.grownBy w' (Value.slice a0 L c0).ownBlock → wpList Try.prog ops Q rest (act.put o.dst (.slice a' (L + m) c')) w') :
    wpList Try.prog ops Q (o :: rest) act W := by
  subst hL
  obtain ⟨i0, hi, hz0, hz1, hz2⟩ := info_parts E.info
  refine wpList_append_own W hgd s x E.sl ho B E.ty i0 E.z E.m E.bytes E.under hi hz0 hz1 hz2 E.zcells E.pos _ zs.length _ hs hO ad m c (E.flat news) hx (by rw [E.flat_length, hm]) hnews
    (E.flat_one _) (by unfold maxLen; omega) (Nat.le_trans (Nat.mul_le_mul hlen E.small) (by decide)) hB ?_
  intro v' w' hown hg _
  obtain ⟨a', c', rfl, _⟩ := own_formR hown
  refine h a' c' w' ?_ hg
  unfold OwnR
  rw [E.flat_append, List.length_append, hm]; exact hown

/-- 'append(out, xs...)' at a step of a region that draws. -/
theorem step_appR {α : Type} (E : Elt α) {ops : Array Oper} {o : Oper} {act : Act} {K : Act → World → Prop} {Q : Exit → Act → World → Prop} {F : Prop} (hgd : o.guard = none) (s x : Operand)
    (ho : o.op = .call { callee := .builtin .append, args := #[s, x], argTypes := #[E.sl, E.sl] })
    {W : World} {B : Nat} {a0 : Option Addr} {c0 L : Nat} {zs : List α} (hL : zs.length = L) (hs : act.eval s = .slice a0 L c0) (hO : OwnR E W B a0 c0 zs)
    (ad : Addr) (m c : Nat) (news : List α) (hx : act.eval x = .slice (some ad) m c) (hm : news.length = m)
    (hnews : ∀ j u, (E.flat news)[j]? = some u → W.cell? (ad.add j) = some u) (hlen : L + m ≤ 1099511627776) (hB : B ≤ W.heap.size)
    (h : ∀ a' c' w', OwnR E w' B a' c' (zs ++ news) → W.grownBy w' (Value.slice a0 L c0).ownBlock → K (act.put o.dst (.slice a' (L + m) c')) w') :
    if Region.wanted o (yielded ops act.tmps) = true then Oper.wp Try.prog o act W K Q else F := by
  have hw : Region.wanted o (yielded ops act.tmps) = true := by simp [Region.wanted, hgd]
  rw [if_pos hw]
  subst hL
  obtain ⟨i0, hi, hz0, hz1, hz2⟩ := info_parts E.info
  refine wp_append_own W s x E.sl ho B E.ty i0 E.z E.m E.bytes E.under hi hz0 hz1 hz2 E.zcells E.pos _ zs.length _ hs hO ad m c (E.flat news) hx (by rw [E.flat_length, hm]) hnews
    (E.flat_one _) (by unfold maxLen; omega) (Nat.le_trans (Nat.mul_le_mul hlen E.small) (by decide)) hB ?_
  intro v' w' hown hg _
  obtain ⟨a', c', rfl, _⟩ := own_formR hown
  refine h a' c' w' ?_ hg
  unfold OwnR
  rw [E.flat_append, List.length_append, hm]; exact hown

/-- A new block holds one element. -/
theorem newR {α : Type} (E : Elt α) (W : World) (x : α) (cs : Array Value) (hcs : cs.toList = E.enc x) : ∀ j u, (E.flat [x])[j]? = some u → (W.alloc (.cells cs E.ty)).cell? ((⟨W.heap.size, 0, none⟩ : Addr).add j) = some u := by
  intro j u hj
  rw [Addr.add_lit, cell_of_row _ W.heap.size _ _ _ (0, 0) (heap_alloc_new W _), Nat.zero_add]
  rw [show E.flat [x] = E.enc x by simp [Elt.flat], ← hcs] at hj
  simpa using hj

theorem madeCells_rep (cs : Array Value) (m : Nat) (hm : cs.size = m) (h0 : 0 < m) (n : Nat) : (madeCells cs (n * m)).toList = (List.replicate n cs.toList).flatten := by
  subst hm
  apply List.ext_getElem?
  intro j
  by_cases hj : j < n * cs.size
  · have hmod : j % cs.size < cs.size := Nat.mod_lt _ h0
    have e1 : (madeCells cs (n * cs.size)).toList[j]? = some cs[j % cs.size] := by simp [madeCells, hj, hmod]
    have e2 : (List.replicate n cs.toList).flatten[j]? = some cs[j % cs.size] := by
      clear e1
      induction n generalizing j with
      | zero => omega
      | succ n ih =>
        rw [List.replicate_succ, List.flatten_cons]
        by_cases hlt : j < cs.size
        · rw [List.getElem?_append_left (by simpa using hlt)]
          simp [Nat.mod_eq_of_lt hlt, hlt]
        · rw [Nat.add_mul] at hj
          rw [List.getElem?_append_right (by simpa using hlt), Array.length_toList]
          have hm2 : (j - cs.size) % cs.size = j % cs.size := (Nat.mod_eq_sub_mod (by omega)).symm
          have := ih (j - cs.size) (by omega) (Nat.mod_lt _ h0)
          rw [this]
          simp only [hm2]
    rw [e1, e2]
  · have e1 : (madeCells cs (n * cs.size)).toList[j]? = none := by simp [madeCells, hj]
    have e2 : (List.replicate n cs.toList).flatten[j]? = none := by
      rw [List.getElem?_eq_none_iff, List.length_flatten]
      simp; omega
    rw [e1, e2]

/-- 'make([]T, n)': n zero elements. -/
theorem wp_makeR {α : Type} (E : Elt α) (x0 : α) (hx0 : E.enc x0 = E.z.cells.toList) {ops : Array Oper} {rest : List Oper} {o : Oper} {act : Act} {Q : Exit → Act → World → Prop} (hgd : o.guard = none) (l c : Operand)
    (ho : o.op = Op.makeSlice E.sl l c) {W : World} (n : Nat) (hl : act.eval l = .int .i64 n) (hc : act.eval c = .int .i64 n) (hn : n ≤ 1099511627776)
    (h : ∀ w', OwnR E w' W.heap.size (some ⟨W.heap.size, 0, none⟩) n (List.replicate n x0) → W.grownBy w' none → wpList Try.prog ops Q rest (act.put o.dst (.slice (some ⟨W.heap.size, 0, none⟩) n n)) w') :
    wpList Try.prog ops Q (o :: rest) act W := by
  obtain ⟨i0, hi, hz0, hz1, hz2⟩ := info_parts E.info
  refine wpList_make_full W hgd l c E.sl ho W.heap.size E.ty i0 E.z E.m E.under hi hz0 hz1 .i64 .i64 n n n hl hc rfl rfl ?_ (by unfold maxLen; omega) (Nat.le_refl _) ?_
  · rw [hz2]; exact Nat.le_trans (Nat.mul_le_mul E.small hn) (by decide)
  · intro w1 hown hg1
    refine h w1 ?_ hg1
    unfold OwnR
    rw [List.length_replicate]
    have e : E.flat (List.replicate n x0) = (madeCells E.z.cells (n * E.m)).toList := by
      rw [madeCells_rep _ _ E.zcells E.pos, ← hx0]
      simp [Elt.flat, List.flatMap]
    rw [e]; exact hown

theorem set_next {α : Type} (ys : List α) (m : Nat) (x0 y : α) (k : Nat) (hk : ys.length = k) : (ys ++ List.replicate (m + 1) x0).set k y = (ys ++ [y]) ++ List.replicate m x0 := by
  subst hk
  rw [List.set_append_right (h := Nat.le_refl _), Nat.sub_self, List.replicate_succ, List.set_cons_zero]
  simp

/-- A new slice is handed back, all that was there is as it was. -/
def RetR {α : Type} (E : Elt α) (w : World) (xs : List α) (e : Ending) (w' : World) : Prop :=
  ∃ a c, e = .returned (.slice a xs.length c) ∧ OwnR E w' w.heap.size a c xs ∧ Below w.heap.size w w'

end Go.Proofs.Ytajheicheefpeaa

/- The kind of element Held: its cells, by name. -/
namespace Go.Proofs.Ytajheicheefpeaa
open Go.RowKit
set_option linter.unusedVariables false

/-- An element: its numbers and texts, where its own list lies, and what that reads as. -/
structure HV where
  id : Int
  ad : Option Addr
  cp : Nat
  zs : List Int
  us : Int

/-- The cells of an element. -/
def encH (x : HV) : List Value := [.int .i64 x.id, .slice x.ad x.zs.length x.cp, .int .i64 x.us]

theorem encH_one (x : HV) : ∀ v ∈ encH x, v.oneCell' = true := by
  intro v hv
  simp only [encH, List.mem_cons, List.mem_nil_iff, or_false] at hv
  rcases hv with rfl | rfl | rfl <;> rfl

def eltH : Elt (HV) where
  ty := 45
  sl := 27
  m := 3
  bytes := 40
  z := .agg #[.int .i64 0, .slice none 0 0, .int .i64 0]
  enc := encH
  pos := by decide
  len := fun x => rfl
  one := encH_one
  under := Try.underlying27
  info := by kernel_rfl
  zcells := by kernel_rfl
  small := by decide

def eltHL : Elt (HV) where
  ty := 57
  sl := 22
  m := 3
  bytes := 40
  z := .agg #[.int .i64 0, .slice none 0 0, .int .i64 0]
  enc := encH
  pos := by decide
  len := fun x => rfl
  one := encH_one
  under := Try.underlying22
  info := by kernel_rfl
  zcells := by kernel_rfl
  small := by decide

theorem atH {w : World} {a : Option Addr} {n : Nat} {xs : List (HV)} (h : RdR eltH w a n xs) {i : Nat} (hi : i < n) :
    ∃ b off x, a = some ⟨b, off, none⟩ ∧ b < w.heap.size ∧ xs[i]? = some x ∧ w.cell? ⟨b, off + i * 3, none⟩ = some (.int .i64 x.id) ∧ w.cell? ⟨b, off + i * 3 + 1, none⟩ = some (.slice x.ad x.zs.length x.cp) ∧ w.cell? ⟨b, off + i * 3 + 2, none⟩ = some (.int .i64 x.us) := by
  obtain ⟨b, off, x, rfl, hl, hx, hc⟩ := h.at_ hi
  exact ⟨b, off, x, rfl, hl, hx, hc 0 _ rfl, hc 1 _ rfl, hc 2 _ rfl⟩

theorem atHL {w : World} {a : Option Addr} {n : Nat} {xs : List (HV)} (h : RdR eltHL w a n xs) {i : Nat} (hi : i < n) :
    ∃ b off x, a = some ⟨b, off, none⟩ ∧ b < w.heap.size ∧ xs[i]? = some x ∧ w.cell? ⟨b, off + i * 3, none⟩ = some (.int .i64 x.id) ∧ w.cell? ⟨b, off + i * 3 + 1, none⟩ = some (.slice x.ad x.zs.length x.cp) ∧ w.cell? ⟨b, off + i * 3 + 2, none⟩ = some (.int .i64 x.us) := by
  obtain ⟨b, off, x, rfl, hl, hx, hc⟩ := h.at_ hi
  exact ⟨b, off, x, rfl, hl, hx, hc 0 _ rfl, hc 1 _ rfl, hc 2 _ rfl⟩

theorem cellsH {w : World} {B g c : Nat} {xs : List (HV)} (h : OwnR eltH w B (some ⟨g, 0, none⟩) c xs) {j : Nat} {x : HV} (hx : xs[j]? = some x) :
    (w.cell? ⟨g, j * 3, none⟩ = some (.int .i64 x.id) ∧ w.cell? ⟨g, j * 3 + 1, none⟩ = some (.slice x.ad x.zs.length x.cp) ∧ w.cell? ⟨g, j * 3 + 2, none⟩ = some (.int .i64 x.us)) ∧ (w.frozen? ⟨g, j * 3, none⟩ = false ∧ w.frozen? ⟨g, j * 3 + 1, none⟩ = false ∧ w.frozen? ⟨g, j * 3 + 2, none⟩ = false) :=
  ⟨⟨(h.cellAt hx (k := 0) rfl).1, (h.cellAt hx (k := 1) rfl).1, (h.cellAt hx (k := 2) rfl).1⟩, ⟨(h.cellAt hx (k := 0) rfl).2, (h.cellAt hx (k := 1) rfl).2, (h.cellAt hx (k := 2) rfl).2⟩⟩

theorem putH {w : World} {B g c : Nat} {xs : List (HV)} (h : OwnR eltH w B (some ⟨g, 0, none⟩) c xs) (j : Nat) (hj : j < xs.length) (x : HV) :
    OwnR eltH (((w.setCell ⟨g, j * 3, none⟩ (.int .i64 x.id)).setCell ⟨g, j * 3 + 1, none⟩ (.slice x.ad x.zs.length x.cp)).setCell ⟨g, j * 3 + 2, none⟩ (.int .i64 x.us)) B (some ⟨g, 0, none⟩) c (xs.set j x) ∧ w.grownBy (((w.setCell ⟨g, j * 3, none⟩ (.int .i64 x.id)).setCell ⟨g, j * 3 + 1, none⟩ (.slice x.ad x.zs.length x.cp)).setCell ⟨g, j * 3 + 2, none⟩ (.int .i64 x.us)) (some g) :=
  h.set j hj x

end Go.Proofs.Ytajheicheefpeaa

/- Contracts of the functions that compare two slices of ints: they answer whether the lists are equal, and only read. -/
namespace Go.Proofs.Ytajheicheefpeaa
open Go.RowKit

/-- v is handed back; the world has only drawn. -/
def RetQ (w : World) (v : Value) (e : Ending) (w' : World) : Prop := e = .returned v ∧ ∃ m, w' = w.drewN m

def eqI (xs ys : List Int) : Bool := decide (xs = ys)

theorem take_succ_eq {xs ys : List Int} {k : Nat} (h : xs.take k = ys.take k) (hx : k < xs.length) (hy : k < ys.length) (e : xs.getD k 0 = ys.getD k 0) : xs.take (k + 1) = ys.take (k + 1) := by
  rw [List.take_succ_eq_append_getElem hx, List.take_succ_eq_append_getElem hy, h]
  simp [List.getD, hx, hy] at e
  rw [e]

theorem eqI_false {xs ys : List Int} {k : Nat} (h : xs.getD k 0 ≠ ys.getD k 0) : eqI xs ys = false := by
  simp only [eqI, decide_eq_false_iff_not]
  rintro rfl
  exact h rfl

set_option maxHeartbeats 400000 in
theorem eqIntS_any (a a' : Option Addr) (n n' c c' : Nat) (xs ys : List Int) (w : World) (hr : RdI w a n xs) (hr' : RdI w a' n' ys) (hn : n ≤ 4611686018427387904) (hn' : n' ≤ 4611686018427387904) :
    Calls Try.prog 21 #[.slice a n c, .slice a' n' c'] w (RetQ w (.bool (eqI xs ys))) := by
  have hl := Lib.hid hr.1
  have hl' := Lib.hid hr'.1
  by_cases hnn : n = n'
  · subst hnn
    go_enter Try.func21, Try.ntmps21
    go_wp2
    go_loopw [5] (fun i wr => ∃ k : Nat, k ≤ n ∧ i = .int .i64 k ∧ Hid (xs.take k = ys.take k) ∧ ∃ m, wr = w.drewN m)
      (fun i _ => n - (intOf i).toNat)
    case atStart => exact ⟨0, Nat.zero_le _, rfl, Lib.hid (by simp), 0, rfl⟩
    case round =>
      obtain ⟨k, hk, rfl, he, m, rfl⟩ := hrel
      by_cases hlt : k < n
      · obtain ⟨b, off, rfl, x, hx, hcell⟩ := hr.at_ hlt
        obtain ⟨b', off', rfl, y, hy, hcell'⟩ := hr'.at_ hlt
        have HX := Lib.hid hx
        have HY := Lib.hid hy
        clear hx hy
        have hk0 : (0 : Int) ≤ (k : Int) := by omega
        have hk1 : (k : Int) < (n : Int) := by omega
        by_cases hxy : x = y
        · have ht : (x != y) = false := by simp [hxy]
          have hs := take_succ_eq he.out (by have := hl.out; omega) (by have := hl'.out; omega) (by rw [← HX.out, ← HY.out, hxy])
          have HS := Lib.hid hs
          clear hxy hs
          go_wp2
          go_quiet (fail)
          go_wp2
          go_roundw
          case rel => exact ⟨k + 1, by omega, by go_num, HS, _, rfl⟩
          case measure => simp [intOf]; omega
        · have ht : (x != y) = true := by simp [hxy]
          have hf : Hid (eqI xs ys = false) := Lib.hid (eqI_false (k := k) (by rw [← HX.out, ← HY.out]; exact hxy))
          clear hxy
          go_wp2
          go_quiet (fail)
          go_wp2
          go_ret
          rw [hf.out]
          exact ⟨rfl, _, World.drewN_drewN _ _ _⟩
      · obtain rfl : k = n := by omega
        go_wp2
        go_ret
        have ht : eqI xs ys = true := by
          have h := he.out
          rw [List.take_of_length_le (by have := hl.out; omega), List.take_of_length_le (by have := hl'.out; omega)] at h
          simp [eqI, h]
        rw [ht]
        exact ⟨rfl, _, rfl⟩
  · have hf : Hid (eqI xs ys = false) := Lib.hid (by
      simp only [eqI, decide_eq_false_iff_not]; rintro rfl; have := hl.out; have := hl'.out; omega)
    go_enter Try.func21, Try.ntmps21
    go_wp2
    go_ret
    rw [hf.out]
    exact ⟨rfl, 0, rfl⟩

set_option maxHeartbeats 400000 in
theorem sameInts_any (a a' : Option Addr) (n n' c c' : Nat) (xs ys : List Int) (w : World) (hr : RdI w a n xs) (hr' : RdI w a' n' ys) (hn : n ≤ 4611686018427387904) (hn' : n' ≤ 4611686018427387904) :
    Calls Try.prog 27 #[.slice a n c, .slice a' n' c'] w (RetQ w (.bool (eqI xs ys))) := by
  have hl := Lib.hid hr.1
  have hl' := Lib.hid hr'.1
  by_cases hnn : n = n'
  · subst hnn
    go_enter Try.func27, Try.ntmps27
    go_wp2
    go_loopw [5] (fun i wr => ∃ k : Nat, k ≤ n ∧ i = .int .i64 k ∧ Hid (xs.take k = ys.take k) ∧ ∃ m, wr = w.drewN m)
      (fun i _ => n - (intOf i).toNat)
    case atStart => exact ⟨0, Nat.zero_le _, rfl, Lib.hid (by simp), 0, rfl⟩
    case round =>
      obtain ⟨k, hk, rfl, he, m, rfl⟩ := hrel
      by_cases hlt : k < n
      · obtain ⟨b, off, rfl, x, hx, hcell⟩ := hr.at_ hlt
        obtain ⟨b', off', rfl, y, hy, hcell'⟩ := hr'.at_ hlt
        have HX := Lib.hid hx
        have HY := Lib.hid hy
        clear hx hy
        have hk0 : (0 : Int) ≤ (k : Int) := by omega
        have hk1 : (k : Int) < (n : Int) := by omega
        by_cases hxy : x = y
        · have ht : (x != y) = false := by simp [hxy]
          have hs := take_succ_eq he.out (by have := hl.out; omega) (by have := hl'.out; omega) (by rw [← HX.out, ← HY.out, hxy])
          have HS := Lib.hid hs
          clear hxy hs
          go_wp2
          go_quiet (fail)
          go_wp2
          go_roundw
          case rel => exact ⟨k + 1, by omega, by go_num, HS, _, rfl⟩
          case measure => simp [intOf]; omega
        · have ht : (x != y) = true := by simp [hxy]
          have hf : Hid (eqI xs ys = false) := Lib.hid (eqI_false (k := k) (by rw [← HX.out, ← HY.out]; exact hxy))
          clear hxy
          go_wp2
          go_quiet (fail)
          go_wp2
          go_ret
          rw [hf.out]
          exact ⟨rfl, _, World.drewN_drewN _ _ _⟩
      · obtain rfl : k = n := by omega
        go_wp2
        go_ret
        have ht : eqI xs ys = true := by
          have h := he.out
          rw [List.take_of_length_le (by have := hl.out; omega), List.take_of_length_le (by have := hl'.out; omega)] at h
          simp [eqI, h]
        rw [ht]
        exact ⟨rfl, _, rfl⟩
  · have hf : Hid (eqI xs ys = false) := Lib.hid (by
      simp only [eqI, decide_eq_false_iff_not]; rintro rfl; have := hl.out; have := hl'.out; omega)
    go_enter Try.func27, Try.ntmps27
    go_wp2
    go_ret
    rw [hf.out]
    exact ⟨rfl, 0, rfl⟩

set_option maxHeartbeats 400000 in
theorem l2Same_any (a a' : Option Addr) (n n' c c' : Nat) (xs ys : List Int) (w : World) (hr : RdI w a n xs) (hr' : RdI w a' n' ys) (hn : n ≤ 4611686018427387904) (hn' : n' ≤ 4611686018427387904) :
    Calls Try.prog 52 #[.slice a n c, .slice a' n' c'] w (RetQ w (.bool (eqI xs ys))) := by
  have hl := Lib.hid hr.1
  have hl' := Lib.hid hr'.1
  by_cases hnn : n = n'
  · subst hnn
    go_enter Try.func52, Try.ntmps52
    go_wp2
    go_loopw [5] (fun i wr => ∃ k : Nat, k ≤ n ∧ i = .int .i64 k ∧ Hid (xs.take k = ys.take k) ∧ ∃ m, wr = w.drewN m)
      (fun i _ => n - (intOf i).toNat)
    case atStart => exact ⟨0, Nat.zero_le _, rfl, Lib.hid (by simp), 0, rfl⟩
    case round =>
      obtain ⟨k, hk, rfl, he, m, rfl⟩ := hrel
      by_cases hlt : k < n
      · obtain ⟨b, off, rfl, x, hx, hcell⟩ := hr.at_ hlt
        obtain ⟨b', off', rfl, y, hy, hcell'⟩ := hr'.at_ hlt
        have HX := Lib.hid hx
        have HY := Lib.hid hy
        clear hx hy
        have hk0 : (0 : Int) ≤ (k : Int) := by omega
        have hk1 : (k : Int) < (n : Int) := by omega
        by_cases hxy : x = y
        · have ht : (x != y) = false := by simp [hxy]
          have hs := take_succ_eq he.out (by have := hl.out; omega) (by have := hl'.out; omega) (by rw [← HX.out, ← HY.out, hxy])
          have HS := Lib.hid hs
          clear hxy hs
          go_wp2
          go_quiet (fail)
          go_wp2
          go_roundw
          case rel => exact ⟨k + 1, by omega, by go_num, HS, _, rfl⟩
          case measure => simp [intOf]; omega
        · have ht : (x != y) = true := by simp [hxy]
          have hf : Hid (eqI xs ys = false) := Lib.hid (eqI_false (k := k) (by rw [← HX.out, ← HY.out]; exact hxy))
          clear hxy
          go_wp2
          go_quiet (fail)
          go_wp2
          go_ret
          rw [hf.out]
          exact ⟨rfl, _, World.drewN_drewN _ _ _⟩
      · obtain rfl : k = n := by omega
        go_wp2
        go_ret
        have ht : eqI xs ys = true := by
          have h := he.out
          rw [List.take_of_length_le (by have := hl.out; omega), List.take_of_length_le (by have := hl'.out; omega)] at h
          simp [eqI, h]
        rw [ht]
        exact ⟨rfl, _, rfl⟩
  · have hf : Hid (eqI xs ys = false) := Lib.hid (by
      simp only [eqI, decide_eq_false_iff_not]; rintro rfl; have := hl.out; have := hl'.out; omega)
    go_enter Try.func52, Try.ntmps52
    go_wp2
    go_ret
    rw [hf.out]
    exact ⟨rfl, 0, rfl⟩

end Go.Proofs.Ytajheicheefpeaa

/- Contract of l6In. -/
namespace Go.Proofs.Ytajheicheefpeaa
open Go.RowKit

/-- v is handed back; all that was there is as it was. -/
def RetB (w : World) (v : Value) (e : Ending) (w' : World) : Prop := e = .returned v ∧ Below w.heap.size w w'

def inB (n lo hi : Int) : Bool := decide (lo ≤ n) && decide (n ≤ hi)

theorem l6In_any (n lo hi : Int) (w : World) :
    Calls Try.prog 50 #[.int .i64 n, .int .i64 lo, .int .i64 hi] w fun e w' => e = .returned (.bool (inB n lo hi)) ∧ w = w' := by
  by_cases h1 : lo ≤ n
  · by_cases h2 : n ≤ hi
    · have hb : inB n lo hi = true := by simp [inB, h1, h2]
      rw [hb]; clear hb
      go_enter Try.func50, Try.ntmps50
      go_wp2
      go_ret
      exact ⟨rfl, rfl⟩
    · have hb : inB n lo hi = false := by simp [inB, h2]
      rw [hb]; clear hb
      go_enter Try.func50, Try.ntmps50
      go_wp2
      go_ret
      exact ⟨rfl, rfl⟩
  · have hb : inB n lo hi = false := by simp [inB, h1]
    rw [hb]; clear hb
    go_enter Try.func50, Try.ntmps50
    go_wp2
    go_ret
    exact ⟨rfl, rfl⟩

end Go.Proofs.Ytajheicheefpeaa

/- Contracts of small helpers: l6In, toIntS, eqIntS, sameInts, l2Same, markIntS, heldIntS. -/
namespace Go.Proofs.Ytajheicheefpeaa
open Go.RowKit

/-- A new slice of ints is handed back, all that was there is as it was. -/
def RetI (w : World) (zs : List Int) (e : Ending) (w' : World) : Prop :=
  ∃ a c, e = .returned (.slice a zs.length c) ∧ OwnI w' w.heap.size a c zs ∧ Below w.heap.size w w'

theorem toIntS_step (zs : List Int) (k : Nat) (hk : k < zs.length) :
    ((zs.take k).map (Value.int .i64) ++ List.replicate (zs.length - k) (Value.int .i64 0)).set k (.int .i64 (zs.getD k 0)) =
      (zs.take (k + 1)).map (Value.int .i64) ++ List.replicate (zs.length - (k + 1)) (Value.int .i64 0) := by
  apply List.ext_getElem?
  intro j
  simp only [List.getElem?_set, List.getElem?_append, List.length_map, List.length_take, List.getElem?_map, List.getElem?_take, List.getElem?_replicate, List.length_append, List.length_replicate]
  have h1 : min k zs.length = k := by omega
  have h2 : min (k + 1) zs.length = k + 1 := by omega
  rw [h1, h2]
  by_cases hj : k = j
  · subst hj
    simp [hk]
    omega
  · by_cases hlt : j < k
    · simp [hj, hlt, show j < k + 1 by omega]
    · simp [hj, hlt, show ¬ j < k + 1 by omega]
      by_cases h : j < zs.length
      · simp [show j - k < zs.length - k by omega, show j - (k + 1) < zs.length - (k + 1) by omega]
      · simp [show ¬ j - k < zs.length - k by omega, show ¬ j - (k + 1) < zs.length - (k + 1) by omega]

set_option maxHeartbeats 400000 in
theorem toIntS_any (a : Option Addr) (n c : Nat) (zs : List Int) (w : World) (hr : RdI w a n zs) (hwf : WfI zs) (hn : n ≤ 1048576) :
    Calls Try.prog 53 #[.slice a n c] w (RetI w zs) := by
  obtain ⟨i0, hi, hz0, hz1, hz2⟩ := info_parts info_int
  go_enter Try.func53, Try.ntmps53
  go_wp2_with (at_make; refine wpList_make_full _ rfl _ _ 36 rfl w.heap.size 3 i0 (.int .i64 0) 1 Try.underlying36 hi hz0 hz1 .i64 .i64 n n n rfl rfl rfl rfl (by rw [hz2]; omega) (by unfold maxLen; omega) (by omega) ?_; intro w1 hown hg1)
  have hzl := hr.1
  have hb1 : Below w.heap.size w w1 := (Below.refl _ _).grown hg1 (Nat.le_refl _) (fun k hk => by cases hk)
  have hrow : w1.ownsRow w.heap.size 3 1 (Value.slice (some { block := w.heap.size, off := 0 }) n n) n
      ((zs.take 0).map (Value.int .i64) ++ List.replicate (zs.length - 0) (Value.int .i64 0)) := by
    have e : (madeCells (Value.int IntKind.i64 0).cells (n * 1)).toList = (zs.take 0).map (Value.int .i64) ++ List.replicate (zs.length - 0) (Value.int .i64 0) := by
      rw [show (Value.int IntKind.i64 0).cells = #[Value.int IntKind.i64 0] from rfl, toList_madeCells_one, Nat.mul_one, hzl]; simp
    rw [← e]; exact hown
  have HZ := Lib.hid hzl
  clear hown hg1 hzl
  go_loopw [4] (fun i wr => ∃ k : Nat, k ≤ n ∧ i = .int .i64 k ∧ Below w.heap.size w wr ∧
      wr.ownsRow w.heap.size 3 1 (Value.slice (some { block := w.heap.size, off := 0 }) n n) n ((zs.take k).map (Value.int .i64) ++ List.replicate (zs.length - k) (Value.int .i64 0)))
    (fun i _ => n - (intOf i).toNat)
  case atStart => exact ⟨0, Nat.zero_le _, rfl, hb1, hrow⟩
  case round =>
    obtain ⟨k, hk, rfl, hbr, hor⟩ := hrel
    by_cases hlt : k < n
    · obtain ⟨b, off, rfl, x, hx, hcell⟩ := (hr.below hbr).at_ hlt
      have HX := Lib.hid hx
      clear hx
      have hst := hor.stored k (.int .i64 x)
      have hfr := hor.frozenAt k
      have hold : wr.cell? ⟨w.heap.size, k, none⟩ = some (.int .i64 0) := by
        rw [hor.cellAt k (by omega)]
        rw [List.getElem?_append_right (by simp; omega), List.getElem?_replicate, if_pos (by have := HZ.out; simp; omega)]
      have hs1 := hst.1
      rw [HX.out, toIntS_step zs k (by have := HZ.out; omega), ← HX.out] at hs1
      have HS := Lib.hid hs1
      clear hst hs1 hor
      go_wp2
      go_roundw
      case rel => exact ⟨k + 1, by omega, by go_num, hbr.setCell (Nat.le_refl _) _, HS.out⟩
      case measure => simp [intOf]; omega
    · obtain rfl : k = n := by omega
      go_wp2
      go_ret
      have h := hor
      rw [← HZ.out] at h ⊢
      exact ⟨_, _, rfl, ⟨hwf, by simpa using h⟩, hbr⟩

end Go.Proofs.Ytajheicheefpeaa

/- Blocks of a store: what a slice of them reads as, that it is the call's own; contracts of szHeldS, toHeldS, eqHeldS. -/
namespace Go.Proofs.Ytajheicheefpeaa
open Go.RowKit
set_option linter.unusedVariables false

theorem below_drewNH {B : Nat} {w w' : World} (h : Below B w w') (k : Nat) : Below B w (w'.drewN k) := ⟨h.os, h.tape, h.output, h.size, h.block⟩

/-- What an element says. -/
def HV.val (x : HV) : Int × List Int × Int := (x.id, x.zs, x.us)
/-- What a list says. -/
def valsH (xs : List HV) : List (Int × List Int × Int) := xs.map HV.val

/-- Every element's own list reads as it says. -/
def InH (w : World) (xs : List HV) : Prop := ∀ x ∈ xs, RdI w x.ad x.zs.length x.zs
/-- All numbers fit. -/
def WfH (xs : List HV) : Prop := ∀ x ∈ xs, WfI x.zs ∧ x.zs.length ≤ maxLen ∧ (-9223372036854775808 ≤ x.id ∧ x.id ≤ 9223372036854775807) ∧ (-9223372036854775808 ≤ x.us ∧ x.us ≤ 9223372036854775807)

theorem InH.below {w w' : World} {xs : List HV} (h : InH w xs) (hb : Below w.heap.size w w') : InH w' xs := fun x hx => (h x hx).below hb

/-- The blocks of two elements' lists are not the same. -/
def apartH (x y : HV) : Prop := ∀ r s, (Value.slice x.ad x.zs.length x.cp).ownBlock = some r → (Value.slice y.ad y.zs.length y.cp).ownBlock = some s → r ≠ s

/-- A slice of the call's own, with lists of the call's own. -/
structure OwnH (w : World) (B : Nat) (a : Option Addr) (c : Nat) (xs : List HV) : Prop where
  row : OwnR eltH w B a c xs
  ins : ∀ x ∈ xs, OwnI w B x.ad x.cp x.zs
  apart : xs.Pairwise apartH

theorem OwnH.below {w w' : World} {B : Nat} {a : Option Addr} {c : Nat} {xs : List HV} (h : OwnH w B a c xs) (hb : Below w.heap.size w w') : OwnH w' B a c xs :=
  ⟨h.row.below hb, fun x hx => (h.ins x hx).below hb, h.apart⟩
theorem OwnH.mono {w : World} {B B' : Nat} {a : Option Addr} {c : Nat} {xs : List HV} (h : OwnH w B a c xs) (hB : B' ≤ B) : OwnH w B' a c xs :=
  ⟨h.row.mono hB, fun x hx => (h.ins x hx).mono hB, h.apart⟩
theorem OwnH.inn {w : World} {B : Nat} {a : Option Addr} {c : Nat} {xs : List HV} (h : OwnH w B a c xs) : InH w xs := fun x hx => (h.ins x hx).rd
theorem OwnI.capI {w : World} {B : Nat} {a : Option Addr} {c : Nat} {zs : List Int} (h : OwnI w B a c zs) : zs.length ≤ c ∧ c ≤ maxLen := by
  rcases h.2.2 with ⟨h1, h0⟩ | ⟨g, cap, cur, hv, hb, hg, hnc, hcm, _⟩
  · injection h1 with _ _ h3
    omega
  · injection hv with _ _ h3
    omega

/-- How many numbers the lists have. -/
def szH (xs : List HV) : Int := (xs.map fun x => (x.zs.length : Int)).sum

theorem szH_cons (x : HV) (xs : List HV) : szH (x :: xs) = x.zs.length + szH xs := by simp [szH]
theorem szH_nonneg (xs : List HV) : 0 ≤ szH xs := by
  induction xs with
  | nil => simp [szH]
  | cons x xs ih => rw [szH_cons]; omega
theorem szH_mem {xs : List HV} {x : HV} (h : x ∈ xs) : (x.zs.length : Int) ≤ szH xs := by
  induction xs with
  | nil => cases h
  | cons y ys ih =>
    rw [szH_cons]
    rcases List.mem_cons.1 h with rfl | h
    · have := szH_nonneg ys; omega
    · have := ih h; omega
theorem szH_drop {xs : List HV} {k : Nat} {x : HV} (h : xs[k]? = some x) : szH (xs.drop k) = x.zs.length + szH (xs.drop (k + 1)) := by
  obtain ⟨hk, rfl⟩ := List.getElem?_eq_some_iff.1 h
  rw [List.drop_eq_getElem_cons hk, szH_cons]

/-- What a size that is asked leaves. -/
def leftH (l s : Int) : Int := if l - s < 0 then -1 else l - s

set_option maxHeartbeats 400000 in
theorem szHeld_any (x : HV) (l : Int) (w : World) (h0 : 0 ≤ l) (h1 : l ≤ 4611686018427387904) (hx : x.zs.length ≤ maxLen) :
    Calls Try.prog 31 #[.agg #[.int .i64 x.id, .slice x.ad x.zs.length x.cp, .int .i64 x.us], .int .i64 l] w (RetB w (.int .i64 (leftH l x.zs.length))) := by
  unfold maxLen at hx
  obtain ⟨n, hn⟩ : ∃ n, x.zs.length = n := ⟨_, rfl⟩
  rw [hn] at hx ⊢
  clear hn
  by_cases a1 : l - n < 0
  · have hr : leftH l n = -1 := by unfold leftH; rw [if_pos (by omega)]
    rw [hr]
    clear hr
    have d1 : decide (l - (n : Int) < 0) = true := by simpa using a1
    go_enter Try.func31, Try.ntmps31
    go_wp2
    go_ret
    exact ⟨rfl, (Below.refl _ _).alloc (Nat.le_refl _) _⟩
  · have d1 : decide (l - (n : Int) < 0) = false := by simpa using a1
    have hr : leftH l n = l - n := by unfold leftH; rw [if_neg (by omega)]
    rw [hr]
    clear hr
    go_enter Try.func31, Try.ntmps31
    go_wp2
    go_ret
    exact ⟨rfl, (Below.refl _ _).alloc (Nat.le_refl _) _⟩

theorem szHeldS_big (a : Option Addr) (n c : Nat) (l : Int) (w : World) (hl : 0 ≤ l ∧ l ≤ 1099511627776) (hn : 4611686018427387904 < n ∧ n ≤ 9223372036854775807) :
    Calls Try.prog 8 #[.slice a n c, .int .i64 l] w (RetB w (.int .i64 (-1))) := by
  have d1 : decide (l - (n : Int) < 0) = true := by simp; omega
  go_enter Try.func8, Try.ntmps8
  go_wp2
  go_ret
  exact ⟨rfl, Below.refl _ _⟩

set_option maxHeartbeats 400000 in
theorem szHeldS_any (a : Option Addr) (n c : Nat) (xs : List HV) (l : Int) (w : World) (hr : RdR eltHL w a n xs) (hwf : WfH xs) (hn : n ≤ 4611686018427387904) (h0 : 0 ≤ l) (h1 : l ≤ 1099511627776) :
    Calls Try.prog 8 #[.slice a n c, .int .i64 l] w (RetB w (.int .i64 (leftH l (n + szH xs)))) := by
  have hsn := szH_nonneg xs
  by_cases a1 : l - n < 0
  · have hrr : leftH l (n + szH xs) = -1 := by unfold leftH; rw [if_pos (by omega)]
    rw [hrr]
    clear hrr
    have d1 : decide (l - (n : Int) < 0) = true := by simpa using a1
    go_enter Try.func8, Try.ntmps8
    go_wp2
    go_ret
    exact ⟨rfl, Below.refl _ _⟩
  have d1 : decide (l - (n : Int) < 0) = false := by simpa using a1
  have hl := Lib.hid hr.1
  have HW := Lib.hid hwf
  clear hwf
  go_enter Try.func8, Try.ntmps8
  go_wp2
  go_loopw [1, 5] (fun v i wr => ∃ k : Nat, k ≤ n ∧ i = .int .i64 k ∧ ∃ q : Int, v = .int .i64 q ∧ 0 ≤ q ∧ q ≤ 1099511627776 ∧ Hid (leftH l (n + szH xs) = leftH q (szH (xs.drop k))) ∧ Below w.heap.size w wr)
    (fun _ i _ => n - (intOf i).toNat)
  case atStart => exact ⟨0, Nat.zero_le _, rfl, l - n, rfl, by omega, by omega, Lib.hid (by rw [List.drop_zero]; unfold leftH; rw [show l - (n + szH xs) = l - n - szH xs by omega]), Below.refl _ _⟩
  case round =>
    obtain ⟨k, hk, rfl, q, rfl, q0, q1, he, hb⟩ := hrel
    by_cases hlt : k < n
    · obtain ⟨b, off, x, rfl, hbl, hx, c0, c1, c2⟩ := atHL (hr.below hb) hlt
      have hd := szH_drop hx
      have hw := HW.out x (List.mem_of_getElem? hx)
      have hnn := szH_nonneg (xs.drop (k + 1))
      have HD := Lib.hid hd
      have HS := Lib.hid hnn
      clear hd hx hnn
      go_wp2_with fail
      with_reducible refine (szHeld_any x q _ q0 (by omega) hw.2.1).mono ?_
      rintro e w2 ⟨rfl, hb2⟩
      have hb3 := hb.trans (hb2.mono hb.size)
      clear hb2 hb
      by_cases a2 : q - x.zs.length < 0
      · have hq : leftH q x.zs.length = -1 := by unfold leftH; rw [if_pos a2]
        have HR : Hid (leftH l (n + szH xs) = -1) := Lib.hid (by
          rw [he.out, HD.out]; have := HS.out; unfold leftH; rw [if_pos (by omega)])
        rw [hq]
        clear hq
        go_wp2
        go_ret
        rw [HR.out]
        exact ⟨rfl, hb3⟩
      · have hq : leftH q x.zs.length = q - x.zs.length := by unfold leftH; rw [if_neg a2]
        obtain ⟨q', hq'⟩ : ∃ q', q - (x.zs.length : Int) = q' := ⟨_, rfl⟩
        have HR : Hid (leftH l (n + szH xs) = leftH q' (szH (xs.drop (k + 1)))) := Lib.hid (by
          rw [he.out, HD.out, ← hq']; unfold leftH
          rw [show q - (x.zs.length + szH (xs.drop (k + 1))) = q - x.zs.length - szH (xs.drop (k + 1)) by omega])
        rw [hq, hq']
        have d2 : decide (q' < 0) = false := by simp; omega
        have e1 : q' ≤ 1099511627776 := by omega
        have e0 : 0 ≤ q' := by omega
        clear hq hq' he
        go_wp2
        go_roundw
        case rel => exact ⟨k + 1, by omega, by go_num, q', rfl, e0, e1, HR, hb3⟩
        case measure => simp [intOf]; omega
    · obtain rfl : k = n := by omega
      have HR : Hid (leftH l (k + szH xs) = q) := Lib.hid (by
        rw [he.out, List.drop_of_length_le (by have := hl.out; omega)]; unfold leftH; rw [if_neg (by simp [szH]; omega)]; simp [szH])
      go_wp2
      go_ret
      rw [HR.out]
      exact ⟨rfl, hb⟩

/-- One element was copied. -/
def RetOneH (w : World) (x : HV) (e : Ending) (w' : World) : Prop :=
  ∃ a c, e = .returned (.agg #[.int .i64 x.id, .slice a x.zs.length c, .int .i64 x.us]) ∧ OwnI w' w.heap.size a c x.zs ∧ Below w.heap.size w w'

theorem heap3 (w w1 : World) (o0 o1 o2 : Obj) (hb : Below (((w.alloc o0).alloc o1).alloc o2).heap.size (((w.alloc o0).alloc o1).alloc o2) w1) :
    w1.heap[w.heap.size]? = some o0 ∧ w1.heap[w.heap.size + 1]? = some o1 ∧ w1.heap[w.heap.size + 1 + 1]? = some o2 ∧ w.heap.size + 3 ≤ w1.heap.size ∧ Below w.heap.size w w1 := by
  have s1 : (w.alloc o0).heap.size = w.heap.size + 1 := by simp
  have s2 : ((w.alloc o0).alloc o1).heap.size = w.heap.size + 2 := by simp
  have s3 : (((w.alloc o0).alloc o1).alloc o2).heap.size = w.heap.size + 3 := by simp
  have hz := hb.size
  rw [s3] at hz
  refine ⟨?_, ?_, ?_, hz, (((Below.refl _ _).alloc (Nat.le_refl _) _).alloc (by omega) _ |>.alloc (by omega) _).trans (hb.mono (by omega))⟩
  · rw [hb.block _ (by omega), heap_alloc_old, heap_alloc_old, heap_alloc_new]
    · omega
    · omega
  · rw [hb.block _ (by omega), heap_alloc_old, ← s1, heap_alloc_new]
    omega
  · rw [hb.block _ (by omega), show w.heap.size + 1 + 1 = ((w.alloc o0).alloc o1).heap.size by omega, heap_alloc_new]

theorem OwnI.set_below {w : World} {B : Nat} {a : Option Addr} {c : Nat} {zs : List Int} (h : OwnI w B a c zs) {p : Addr} (hp : p.block < B) (u : Value) : OwnI (w.setCell p u) B a c zs := ⟨h.1, ownsRow_setCell_below h.2 hp u⟩

theorem set3 (w1 : World) (R O : Nat) (hRO : R ≠ O) (T : TypeId) (u0 u1 u2 p q v0 v1 v2 : Value) (h : w1.heap[R]? = some (.cells #[u0, u1, u2] T (0, 0))) :
    (((((w1.setCell ⟨O, 1, none⟩ p).setCell ⟨O, 2, none⟩ q).setCell ⟨R, 0, none⟩ v0).setCell ⟨R, 1, none⟩ v1).setCell ⟨R, 2, none⟩ v2).cell? ⟨R, 0, none⟩ = some v0 ∧
    (((((w1.setCell ⟨O, 1, none⟩ p).setCell ⟨O, 2, none⟩ q).setCell ⟨R, 0, none⟩ v0).setCell ⟨R, 1, none⟩ v1).setCell ⟨R, 2, none⟩ v2).cell? ⟨R, 1, none⟩ = some v1 ∧
    (((((w1.setCell ⟨O, 1, none⟩ p).setCell ⟨O, 2, none⟩ q).setCell ⟨R, 0, none⟩ v0).setCell ⟨R, 1, none⟩ v1).setCell ⟨R, 2, none⟩ v2).cell? ⟨R, 2, none⟩ = some v2 := by
  have e1 := (heap_setCell_other w1 ⟨O, 1, none⟩ R p (by simpa using hRO)).trans h
  have e2 := (heap_setCell_other (w1.setCell ⟨O, 1, none⟩ p) ⟨O, 2, none⟩ R q (by simpa using hRO)).trans e1
  have e3 := heap_setCell_same _ R 0 _ _ v0 e2
  have e4 := heap_setCell_same _ R 1 _ _ v1 e3
  have e5 := heap_setCell_same _ R 2 _ _ v2 e4
  refine ⟨?_, ?_, ?_⟩
  · rw [cell_of_row _ R 0 _ _ (0, 0) e5]; rfl
  · rw [cell_of_row _ R 1 _ _ (0, 0) e5]; rfl
  · rw [cell_of_row _ R 2 _ _ (0, 0) e5]; rfl

set_option maxHeartbeats 400000 in
theorem toHeld_any (x : HV) (w : World) (hr : RdI w x.ad x.zs.length x.zs) (hwf : WfI x.zs) (hn : x.zs.length ≤ 1048576) :
    Calls Try.prog 34 #[.agg #[.int .i64 x.id, .slice x.ad x.zs.length x.cp, .int .i64 x.us]] w (RetOneH w x) := by
  have hbw : ∀ o0 o1 o2, Below w.heap.size w (((w.alloc o0).alloc o1).alloc o2) := fun o0 o1 o2 => ((Below.refl _ _).alloc (Nat.le_refl _) _).alloc (by simp) _ |>.alloc (by simp; omega) _
  go_enter Try.func34, Try.ntmps34
  go_wp2_with fail
  with_reducible refine (toIntS_any x.ad x.zs.length x.cp x.zs _ (hr.below (hbw _ _ _)) hwf hn).mono ?_
  rintro e w1 ⟨a1, c1, rfl, ho, hb⟩
  have hh := heap3 _ _ _ _ _ hb
  have p2 := cell_of_row w1 w.heap.size 2 _ _ (0, 0) hh.1
  have r0 := cell_of_row w1 (w.heap.size + 1) 0 _ _ (0, 0) hh.2.1
  have r1 := cell_of_row w1 (w.heap.size + 1) 1 _ _ (0, 0) hh.2.1
  have r2 := cell_of_row w1 (w.heap.size + 1) 2 _ _ (0, 0) hh.2.1
  have o0 := cell_of_row w1 (w.heap.size + 1 + 1) 0 _ _ (0, 0) hh.2.2.1
  have o1 := cell_of_row w1 (w.heap.size + 1 + 1) 1 _ _ (0, 0) hh.2.2.1
  have o2 := cell_of_row w1 (w.heap.size + 1 + 1) 2 _ _ (0, 0) hh.2.2.1
  have f0 := frozen_of_row w1 (w.heap.size + 1) 0 _ _ hh.2.1
  have f1 := frozen_of_row w1 (w.heap.size + 1) 1 _ _ hh.2.1
  have f2 := frozen_of_row w1 (w.heap.size + 1) 2 _ _ hh.2.1
  have g1 := frozen_of_row w1 (w.heap.size + 1 + 1) 1 _ _ hh.2.2.1
  have g2 := frozen_of_row w1 (w.heap.size + 1 + 1) 2 _ _ hh.2.2.1
  obtain ⟨k0, k1, k2⟩ := set3 w1 (w.heap.size + 1) (w.heap.size + 1 + 1) (by omega) _ _ _ _ (.slice a1 x.zs.length c1) (.int .i64 x.us) (.int .i64 x.id) (.slice a1 x.zs.length c1) (.int .i64 x.us) hh.2.1
  have HB := Lib.hid hh.2.2.2
  have HO := Lib.hid (ho.mono (show w.heap.size + 3 ≤ _ by simp))
  have K0 := Lib.hid k0
  have K1 := Lib.hid k1
  have K2 := Lib.hid k2
  simp only [List.getElem?_toArray, List.getElem?_cons_zero, List.getElem?_cons_succ] at p2 r0 r1 r2 o0 o1 o2
  clear hh hb ho hr hbw k0 k1 k2
  go_wp2
  have k0 := K0.out
  have k1 := K1.out
  have k2 := K2.out
  refine bodyPost_ret (v := .agg #[.int .i64 x.id, .slice a1 x.zs.length c1, .int .i64 x.us]) ?_ rfl ⟨a1, c1, rfl, ?_, ?_⟩
  · simp [results, Try.results34, go_sem, k0, k1, k2]
  · exact ((((((HO.out.set_below (by simp <;> omega) _).set_below (by simp <;> omega) _).set_below (by simp <;> omega) _).set_below (by simp <;> omega) _).set_below (by simp <;> omega) _)).mono (by omega)
  · exact ((((HB.out.2.setCell (by simp <;> omega) _).setCell (by simp <;> omega) _).setCell (by simp <;> omega) _).setCell (by simp <;> omega) _).setCell (by simp <;> omega) _

/-- Elements were copied into new memory. -/
def RetH (w : World) (xs : List HV) (e : Ending) (w' : World) : Prop :=
  ∃ ys a c, e = .returned (.slice a xs.length c) ∧ ys.length = xs.length ∧ valsH ys = valsH xs ∧ OwnH w' w.heap.size a c ys ∧ Below w.heap.size w w'

def hv0 : HV := ⟨0, none, 0, [], 0⟩

theorem pairwise_snoc {α : Type} {R : α → α → Prop} {xs : List α} {x : α} (h : xs.Pairwise R) (hx : ∀ y ∈ xs, R y x) : (xs ++ [x]).Pairwise R := by
  rw [List.pairwise_append]
  exact ⟨h, List.pairwise_singleton _ _, fun a ha b hb => by rw [List.mem_singleton] at hb; subst hb; exact hx a ha⟩

theorem OwnI.set_kind {w : World} {B g : Nat} {a : Option Addr} {c : Nat} {zs : List Int} (h : OwnI w B a c zs) {cs : Array Value} {T : TypeId} {fz : Nat × Nat} (hg : w.heap[g]? = some (.cells cs T fz)) (hT : T ≠ 3) {w' : World} (hw : w.grownBy w' (some g)) : OwnI w' B a c zs := by
  refine ⟨h.1, World.ownsRow.kept h.2 hw ?_⟩
  rcases h.2.2 with ⟨h1, _⟩ | ⟨g', cap, cur, hv, _, hg', _⟩
  · rw [h1]; exact .inl rfl
  · rw [hv]
    right
    intro e
    injection e with e
    simp only at e
    subst e
    rw [hg'] at hg
    injection hg with hg
    injection hg with _ hg
    exact hT hg.symm

theorem OwnR.heapAt {α : Type} {E : Elt α} {w : World} {B g : Nat} {c : Nat} {xs : List α} (h : OwnR E w B (some ⟨g, 0, none⟩) c xs) : ∃ cs, w.heap[g]? = some (.cells cs E.ty (0, 0)) := by
  rcases h.2 with ⟨h1, _⟩ | ⟨g', cap, cur, hv, _, hg, _⟩
  · cases h1
  · injection hv with hv
    injection hv with hv
    injection hv with hv
    subst hv
    exact ⟨_, hg⟩

theorem OwnI.blk {w : World} {B : Nat} {a : Option Addr} {c : Nat} {zs : List Int} (h : OwnI w B a c zs) : ∀ k, (Value.slice a zs.length c).ownBlock = some k → B ≤ k ∧ k < w.heap.size := fun k hk => World.ownsRow.lt h.2 k hk

set_option maxHeartbeats 1000000 in
theorem toHeldS_any (a : Option Addr) (n c : Nat) (xs : List HV) (w : World) (hr : RdR eltHL w a n xs) (hin : InH w xs) (hwf : WfH xs) (hn : n ≤ 1048576) (hs : ∀ x ∈ xs, x.zs.length ≤ 1048576) :
    Calls Try.prog 10 #[.slice a n c] w (RetH w xs) := by
  go_enter Try.func10, Try.ntmps10
  go_wp2_with (at_make; refine wp_makeR eltH hv0 rfl rfl _ _ rfl n rfl rfl (by omega) ?_; intro w1 hown hg1)
  have hb1 : Below w.heap.size w w1 := (Below.refl _ _).grown hg1 (Nat.le_refl _) (fun k hk => by cases hk)
  have HZ := Lib.hid hr.1
  have HI := Lib.hid hin
  have HW := Lib.hid hwf
  have HS := Lib.hid hs
  clear hg1 hin hwf hs
  go_loopw [4] (fun i wr => ∃ k m : Nat, k + m = n ∧ i = .int .i64 k ∧ Below w.heap.size w wr ∧ ∃ ys : List HV, Hid (ys.length = k) ∧ Hid (valsH ys = valsH (xs.take k)) ∧ OwnR eltH wr w.heap.size (some { block := w.heap.size, off := 0 }) n (ys ++ List.replicate m hv0) ∧ Hid (∀ y ∈ ys, OwnI wr w.heap.size y.ad y.cp y.zs) ∧ Hid (ys.Pairwise apartH))
    (fun i _ => n - (intOf i).toNat)
  case atStart => exact ⟨0, n, by omega, rfl, hb1, [], Lib.hid rfl, Lib.hid rfl, hown, Lib.hid (by intro y hy; cases hy), Lib.hid List.Pairwise.nil⟩
  case round =>
    clear hown hb1
    obtain ⟨k, m, hk, rfl, hbr, ys, hyl, hyv, hor, hyi, hyp⟩ := hrel
    by_cases hlt : k < n
    · obtain ⟨m, rfl⟩ : ∃ m', m = m' + 1 := ⟨m - 1, by omega⟩
      obtain ⟨b, off, x, rfl, hbl, hx, c0, c1, c2⟩ := atHL (hr.below hbr) hlt
      have hmem := List.mem_of_getElem? hx
      have HX := Lib.hid hx
      clear hx
      have hw1 := (HW.out x hmem).1
      have hw2 := HS.out x hmem
      have hw3 := (HI.out x hmem).below hbr
      go_wp2_with fail
      with_reducible refine (toHeld_any x _ hw3 hw1 hw2).mono ?_
      rintro e w2 ⟨a2, c2, rfl, hoi, hb2⟩
      have ho2 := hor.below hb2
      have hb3 := hbr.trans (hb2.mono hbr.size)
      have hkl : k < (ys ++ List.replicate (m + 1) hv0).length := by rw [List.length_append, hyl.out, List.length_replicate]; omega
      have hxo : (ys ++ List.replicate (m + 1) hv0)[k]? = some hv0 := by
        rw [List.getElem?_append_right (by rw [hyl.out]; exact Nat.le_refl _), hyl.out, Nat.sub_self]; rfl
      obtain ⟨⟨q0, q1, q2⟩, f0, f1, f2⟩ := cellsH ho2 hxo
      have hput := putH ho2 k hkl ⟨x.id, a2, c2, x.zs, x.us⟩
      obtain ⟨cs, hcs⟩ := ho2.heapAt
      have hs := hput.1
      rw [set_next _ _ _ _ _ hyl.out] at hs
      have HT := Lib.hid hs
      have hyl2 : Hid ((ys ++ [(⟨x.id, a2, c2, x.zs, x.us⟩ : HV)]).length = k + 1) := Lib.hid (by rw [List.length_append, hyl.out]; rfl)
      have hyv2 : Hid (valsH (ys ++ [(⟨x.id, a2, c2, x.zs, x.us⟩ : HV)]) = valsH (xs.take (k + 1))) := Lib.hid (by
        obtain ⟨h1, h2⟩ := List.getElem?_eq_some_iff.1 HX.out
        rw [List.take_succ_eq_append_getElem h1, h2]
        unfold valsH at hyv ⊢
        rw [List.map_append, List.map_append, hyv.out]
        rfl)
      have hyi2 := Lib.hid (fun y (hy : y ∈ ys ++ [(⟨x.id, a2, c2, x.zs, x.us⟩ : HV)]) => (show OwnI _ w.heap.size y.ad y.cp y.zs by
        rcases List.mem_append.1 hy with hy | hy
        · exact ((hyi.out y hy).below hb2).set_kind hcs (by decide) hput.2
        · rw [List.mem_singleton] at hy
          subst hy
          exact (hoi.mono hbr.size).set_kind hcs (by decide) hput.2))
      have hyp2 := Lib.hid (pairwise_snoc hyp.out (x := (⟨x.id, a2, c2, x.zs, x.us⟩ : HV)) (fun y hy r s h1 h2 => by
        have := ((hyi.out y hy).blk r h1).2
        have := (hoi.blk s h2).1
        omega))
      clear hput hs ho2 hkl hxo hb2 hor hoi hcs hbr
      go_wp2
      go_roundw
      case rel => exact ⟨k + 1, m, by omega, by go_num, ((hb3.setCell (Nat.le_refl _) _).setCell (Nat.le_refl _) _).setCell (Nat.le_refl _) _, _, hyl2, hyv2, HT.out, hyi2, hyp2⟩
      case measure => simp [intOf]; omega
    · obtain rfl : m = 0 := by omega
      obtain rfl : k = n := by omega
      go_wp2
      go_ret
      have h := hor
      rw [List.replicate_zero, List.append_nil] at h
      have hz := HZ.out
      refine ⟨ys, _, k, by rw [hz]; rfl, by rw [hyl.out, hz], by rw [hyv.out, List.take_of_length_le (by omega)], ⟨h, hyi.out, hyp.out⟩, hbr⟩

theorem eqI_self (xs : List Int) : eqI xs xs = true := by simp [eqI]

set_option maxHeartbeats 400000 in
theorem eqHeld_self (x y : HV) (hxy : x.val = y.val) (w : World) (hr : RdI w x.ad x.zs.length x.zs) (hr' : RdI w y.ad y.zs.length y.zs) (hn : x.zs.length ≤ 4611686018427387904) :
    Calls Try.prog 36 #[.agg #[.int .i64 x.id, .slice x.ad x.zs.length x.cp, .int .i64 x.us], .agg #[.int .i64 y.id, .slice y.ad y.zs.length y.cp, .int .i64 y.us]] w (RetB w (.bool true)) := by
  obtain ⟨i, a, c, zs, u⟩ := x
  obtain ⟨i', a', c', zs', u'⟩ := y
  simp only [HV.val, Prod.mk.injEq] at hxy
  obtain ⟨rfl, rfl, rfl⟩ := hxy
  simp only at hr hr' hn ⊢
  have t1 : (i != i) = false := by simp
  have t2 : (u != u) = false := by simp
  have hb0 : ∀ o0 o1, Below w.heap.size w ((w.alloc o0).alloc o1) := fun o0 o1 => ((Below.refl _ _).alloc (Nat.le_refl _) _).alloc (by simp) _
  go_enter Try.func36, Try.ntmps36
  go_wp2_with fail
  with_reducible refine (eqIntS_any a a' zs.length zs.length c c' zs zs _ (hr.below (hb0 _ _)) (hr'.below (hb0 _ _)) hn hn).mono ?_
  rintro e w1 ⟨rfl, m, rfl⟩
  rw [eqI_self]
  go_wp2
  go_ret
  exact ⟨rfl, below_drewNH (hb0 _ _) m⟩

set_option maxRecDepth 100000 in
set_option maxHeartbeats 1000000 in
theorem eqHeldS_self (a a' : Option Addr) (n c c' : Nat) (xs ys : List HV) (hv : valsH xs = valsH ys) (w : World) (hr : RdR eltH w a n xs) (hr' : RdR eltH w a' n ys) (hi : InH w xs) (hi' : InH w ys) (hn : n ≤ 4611686018427387904) (hs : ∀ x ∈ xs, x.zs.length ≤ 4611686018427387904) :
    Calls Try.prog 13 #[.slice a n c, .slice a' n c'] w (RetB w (.bool true)) := by
  have HV' := Lib.hid hv
  have HI := Lib.hid hi
  have HI' := Lib.hid hi'
  have HS := Lib.hid hs
  clear hv hi hi' hs
  go_enter Try.func13, Try.ntmps13
  go_wp2
  go_loopw [5] (fun i wr => ∃ k : Nat, k ≤ n ∧ i = .int .i64 k ∧ Below w.heap.size w wr)
    (fun i _ => n - (intOf i).toNat)
  case atStart => exact ⟨0, Nat.zero_le _, rfl, Below.refl _ _⟩
  case round =>
    obtain ⟨k, hk, rfl, hbr⟩ := hrel
    by_cases hlt : k < n
    · obtain ⟨b, off, x, rfl, hbl, hx, c0, c1, c2⟩ := atH (hr.below hbr) hlt
      obtain ⟨b', off', y, rfl, hbl', hy, c0', c1', c2'⟩ := atH (hr'.below hbr) hlt
      have hxy : x.val = y.val := by
        have h1 : (valsH xs)[k]? = some x.val := by unfold valsH; rw [List.getElem?_map, hx]; rfl
        have h2 : (valsH ys)[k]? = some y.val := by unfold valsH; rw [List.getElem?_map, hy]; rfl
        rw [HV'.out, h2] at h1
        exact (Option.some.inj h1).symm
      have hr1 := (HI.out x (List.mem_of_getElem? hx)).below hbr
      have hr2 := (HI'.out y (List.mem_of_getElem? hy)).below hbr
      have hs1 := HS.out x (List.mem_of_getElem? hx)
      have HXY := Lib.hid hxy
      have HR1 := Lib.hid hr1
      have HR2 := Lib.hid hr2
      clear hx hy hxy hr1 hr2
      have hk0 : (0 : Int) ≤ (k : Int) := by omega
      have hk1 : (k : Int) < (n : Int) := by omega
      have hbd' : Below w.heap.size w wr.drew := below_drewNH hbr 1
      go_wp2
      go_still_tail 8, (by kernel_rfl)
      change wpList _ _ _ _ _ wr.drew
      have HQ1 : Hid (RdI wr.drew x.ad x.zs.length x.zs) := Lib.hid HR1.out
      have HQ2 : Hid (RdI wr.drew y.ad y.zs.length y.zs) := Lib.hid HR2.out
      clear HR1 HR2
      generalize wr.drew = W at hbd' HQ1 HQ2 ⊢
      go_wp2_with fail
      with_reducible refine (eqHeld_self x y HXY.out _ HQ1.out HQ2.out hs1).mono ?_
      rintro e w2 ⟨rfl, hb2⟩
      have hb3 := hbd'.trans (hb2.mono hbd'.size)
      clear hb2
      go_wp2
      go_roundw
      case rel => exact ⟨k + 1, by omega, by go_num, hb3⟩
      case measure => simp [intOf]; omega
    · obtain rfl : k = n := by omega
      go_wp2
      go_ret
      exact ⟨rfl, hbr⟩

end Go.Proofs.Ytajheicheefpeaa

/- Plain: lists whose elements are all good, each behind the one ahead of it; the order of texts. -/
namespace Go.Proofs.Ytajheicheefpeaa
set_option linter.unusedVariables false

/-- The element at j is good, and stands behind the one ahead of it. -/
def goodAt {α : Type} (ok : α → Bool) (bef : α → α → Bool) (xs : List α) (j : Nat) : Bool :=
  match xs[j]? with
  | none => true
  | some x => ok x && (match j with | 0 => true | i + 1 => match xs[i]? with | none => true | some y => bef y x)

/-- All elements are good, in order, and they are at most m. -/
def chainV {α : Type} (ok : α → Bool) (bef : α → α → Bool) (m : Nat) (xs : List α) : Bool :=
  decide (xs.length ≤ m) && (List.range xs.length).all (goodAt ok bef xs)

theorem chainV_iff {α : Type} {ok : α → Bool} {bef : α → α → Bool} {m : Nat} {xs : List α} : chainV ok bef m xs = true ↔ xs.length ≤ m ∧ ∀ j, j < xs.length → goodAt ok bef xs j = true := by
  simp [chainV]

theorem chainV_bad {α : Type} {ok : α → Bool} {bef : α → α → Bool} {m : Nat} {xs : List α} {j : Nat} (hj : j < xs.length) (h : goodAt ok bef xs j = false) : chainV ok bef m xs = false := by
  cases hc : chainV ok bef m xs with
  | false => rfl
  | true => rw [(chainV_iff.1 hc).2 j hj] at h; cases h

theorem chainV_long {α : Type} {ok : α → Bool} {bef : α → α → Bool} {m : Nat} {xs : List α} (h : m < xs.length) : chainV ok bef m xs = false := by
  cases hc : chainV ok bef m xs with
  | false => rfl
  | true => have := (chainV_iff.1 hc).1; omega

theorem chainV_all {α : Type} {ok : α → Bool} {bef : α → α → Bool} {m : Nat} {xs : List α} (h : ∀ j, j < xs.length → goodAt ok bef xs j = true) : chainV ok bef m xs = decide (xs.length ≤ m) := by
  have : (List.range xs.length).all (goodAt ok bef xs) = true := by simpa using h
  simp [chainV, this]

theorem goodAt_zero {α : Type} {ok : α → Bool} {bef : α → α → Bool} {xs : List α} {x : α} (h : xs[0]? = some x) : goodAt ok bef xs 0 = ok x := by
  simp [goodAt, h]

theorem goodAt_succ {α : Type} {ok : α → Bool} {bef : α → α → Bool} {xs : List α} {j : Nat} {x y : α} (hj : 0 < j) (h : xs[j]? = some x) (hy : xs[j - 1]? = some y) : goodAt ok bef xs j = (ok x && bef y x) := by
  cases j with
  | zero => omega
  | succ i => simp only [Nat.add_sub_cancel] at hy; simp [goodAt, h, hy]

theorem good_step {P : Nat → Prop} {k : Nat} (h : ∀ j, j < k → P j) (hk : P k) : ∀ j, j < k + 1 → P j := by
  intro j hj
  rcases Nat.lt_or_ge j k with h' | h'
  · exact h j h'
  · obtain rfl : j = k := by omega
    exact hk

/-- In a chain all stand behind all ahead of them. -/
theorem chain_pairwise {α : Type} {ok : α → Bool} {bef : α → α → Bool} (ht : ∀ x y z, bef x y = true → bef y z = true → bef x z = true) {m : Nat} {xs : List α} (h : chainV ok bef m xs = true) :
    xs.length ≤ m ∧ (∀ x ∈ xs, ok x = true) ∧ xs.Pairwise (fun x y => bef x y = true) := by
  obtain ⟨h1, h2⟩ := chainV_iff.1 h
  refine ⟨h1, ?_, ?_⟩
  · intro x hx
    obtain ⟨j, hj, rfl⟩ := List.getElem_of_mem hx
    have := h2 j hj
    unfold goodAt at this
    rw [List.getElem?_eq_getElem hj] at this
    simp only [Bool.and_eq_true] at this
    exact this.1
  · have hadj : ∀ j (hj : j + 1 < xs.length), bef xs[j] xs[j + 1] = true := by
      intro j hj
      have := h2 (j + 1) hj
      rw [goodAt_succ (by omega) (List.getElem?_eq_getElem hj) (by rw [Nat.add_sub_cancel]; exact List.getElem?_eq_getElem (by omega))] at this
      simp only [Bool.and_eq_true] at this
      exact this.2
    have hall : ∀ d i (hd : i + d + 1 < xs.length), bef xs[i] xs[i + d + 1] = true := by
      intro d
      induction d with
      | zero => intro i hd; exact hadj i hd
      | succ d ih =>
        intro i hd
        exact ht _ _ _ (ih i (by omega)) (hadj (i + d + 1) (by omega))
    rw [List.pairwise_iff_getElem]
    intro i j hi hj hij
    obtain ⟨d, rfl⟩ : ∃ d, j = i + d + 1 := ⟨j - i - 1, by omega⟩
    exact hall d i hj

theorem chain_of_pairwise {α : Type} {ok : α → Bool} {bef : α → α → Bool} {m : Nat} {xs : List α} (h1 : xs.length ≤ m) (h2 : ∀ x ∈ xs, ok x = true) (h3 : xs.Pairwise (fun x y => bef x y = true)) : chainV ok bef m xs = true := by
  refine chainV_iff.2 ⟨h1, fun j hj => ?_⟩
  rw [List.pairwise_iff_getElem] at h3
  cases j with
  | zero => rw [goodAt_zero (List.getElem?_eq_getElem hj)]; exact h2 _ (List.getElem_mem _)
  | succ i =>
    rw [goodAt_succ (by omega) (List.getElem?_eq_getElem hj) (by rw [Nat.add_sub_cancel]; exact List.getElem?_eq_getElem (by omega)), h2 _ (List.getElem_mem _)]
    simpa using h3 i (i + 1) (by omega) hj (by omega)

/-- An element less. -/
theorem chain_less {α : Type} {ok : α → Bool} {bef : α → α → Bool} (ht : ∀ x y z, bef x y = true → bef y z = true → bef x z = true) {m : Nat} {xs : List α} (h : chainV ok bef m xs = true) (k : Nat) :
    chainV ok bef m (xs.take k ++ xs.drop (k + 1)) = true := by
  obtain ⟨h1, h2, h3⟩ := chain_pairwise ht h
  have hs : (xs.take k ++ xs.drop (k + 1)).Sublist xs := by
    conv => rhs; rw [← List.take_append_drop k xs]
    refine List.Sublist.append (List.Sublist.refl _) ?_
    rw [← List.drop_drop]
    exact List.drop_sublist _ _
  exact chain_of_pairwise (Nat.le_trans hs.length_le h1) (fun x hx => h2 x (hs.mem hx)) (h3.sublist hs)

/-- An element twice. -/
theorem chain_twice {α : Type} {ok : α → Bool} {bef : α → α → Bool} (hi : ∀ x, bef x x = false) {m : Nat} {xs : List α} {k : Nat} (hk : k < xs.length) :
    chainV ok bef m (xs.take (k + 1) ++ xs.drop k) = false := by
  have e1 : (xs.take (k + 1) ++ xs.drop k)[k]? = some xs[k] := by
    rw [List.getElem?_append_left (by rw [List.length_take]; omega), List.getElem?_take, if_pos (by omega), List.getElem?_eq_getElem hk]
  have e2 : (xs.take (k + 1) ++ xs.drop k)[k + 1]? = some xs[k] := by
    rw [List.getElem?_append_right (by rw [List.length_take]; omega), List.length_take, List.getElem?_drop, show k + (k + 1 - min (k + 1) xs.length) = k by omega, List.getElem?_eq_getElem hk]
  refine chainV_bad (j := k + 1) (List.getElem?_eq_some_iff.1 e2).1 ?_
  rw [goodAt_succ (by omega) e2 (by rw [Nat.add_sub_cancel]; exact e1), hi]
  simp

/-- The order of texts. -/
def ltB (a b : List UInt8) : Bool := Op.bytesLess a b

theorem ltB_nil (b : List UInt8) : ltB [] b = !b.isEmpty := by cases b <;> rfl
theorem ltB_cons (a : UInt8) (x : List UInt8) (b : UInt8) (y : List UInt8) : ltB (a :: x) (b :: y) = (decide (a < b) || (a == b && ltB x y)) := rfl
theorem ltB_cons_nil (a : UInt8) (x : List UInt8) : ltB (a :: x) [] = false := rfl

theorem ltB_irrefl (a : List UInt8) : ltB a a = false := by
  induction a with
  | nil => rfl
  | cons x a ih => rw [ltB_cons, ih]; simp [UInt8.lt_irrefl]

theorem ltB_trans : ∀ {a b c : List UInt8}, ltB a b = true → ltB b c = true → ltB a c = true := by
  intro a
  induction a with
  | nil =>
    intro b c h1 h2
    cases c with
    | nil => cases b with
      | nil => exact h1
      | cons y b => rw [ltB_cons_nil] at h2; cases h2
    | cons z c => rfl
  | cons x a ih =>
    intro b c h1 h2
    cases b with
    | nil => rw [ltB_cons_nil] at h1; cases h1
    | cons y b =>
      cases c with
      | nil => rw [ltB_cons_nil] at h2; cases h2
      | cons z c =>
        rw [ltB_cons] at h1 h2 ⊢
        simp only [Bool.or_eq_true, Bool.and_eq_true, decide_eq_true_eq, beq_iff_eq] at h1 h2 ⊢
        rcases h1 with h1 | ⟨rfl, h1⟩
        · rcases h2 with h2 | ⟨rfl, h2⟩
          · exact .inl (UInt8.lt_trans h1 h2)
          · exact .inl h1
        · rcases h2 with h2 | ⟨rfl, h2⟩
          · exact .inl h2
          · exact .inr ⟨rfl, ih h1 h2⟩

end Go.Proofs.Ytajheicheefpeaa

/- Contracts: spec.BlockValid, spec.FileValid, impl.bytesValid, impl.BlockValid, impl.FileValid: all answer plain tests on the list. -/
namespace Go.Proofs.Ytajheicheefpeaa
open Go.RowKit

def allB (zs : List Int) : Bool := zs.all fun z => inB z 0 255
def blockV (zs : List Int) : Bool := allB zs && inB zs.length 1 8
def fileV (zs : List Int) : Bool := allB zs && inB zs.length 0 32

theorem allB_succ {zs : List Int} {k : Nat} (h : k < zs.length) : allB (zs.take (k + 1)) = (allB (zs.take k) && inB (zs.getD k 0) 0 255) := by
  rw [List.take_succ_eq_append_getElem h]
  have e : zs.getD k 0 = zs[k] := by simp [List.getD, h]
  simp only [allB, List.all_append, List.all_cons, List.all_nil, Bool.and_true, e]

theorem allB_take {zs : List Int} {k : Nat} (h : allB (zs.take k) = false) : allB zs = false := by
  rw [← List.take_append_drop k zs]
  simp only [allB, List.all_append, Bool.and_eq_false_iff] at *
  exact .inl h

theorem inB_byte {x : Int} : inB x 0 255 = true ↔ 0 ≤ x ∧ x ≤ 255 := by simp [inB]

set_option maxHeartbeats 400000 in
theorem specBlockValid_any (a : Option Addr) (n c : Nat) (zs : List Int) (w : World) (hr : RdI w a n zs) (hn : n ≤ 4611686018427387904) :
    Calls Try.prog 51 #[.slice a n c] w fun e w' => e = .returned (.bool (blockV zs)) ∧ w = w' := by
  have hl := Lib.hid hr.1
  go_enter Try.func51, Try.ntmps51
  go_wp2
  go_loop [3] (fun i => ∃ k : Nat, k ≤ n ∧ i = .int .i64 k ∧ Hid (allB (zs.take k) = true)) (fun i => n - (intOf i).toNat)
  case atStart => exact ⟨0, Nat.zero_le _, rfl, Lib.hid (by simp [allB])⟩
  case round =>
    obtain ⟨k, hk, rfl, he⟩ := hrel
    by_cases hlt : k < n
    · obtain ⟨b, off, rfl, x, hx, hcell⟩ := hr.at_ hlt
      have hs := allB_succ (zs := zs) (k := k) (by have := hl.out; omega)
      rw [he.out, ← hx] at hs
      have HX := Lib.hid hx
      clear hx
      by_cases hb : inB x 0 255 = true
      · have HS : Hid (allB (zs.take (k + 1)) = true) := Lib.hid (by rw [hs, hb]; rfl)
        clear hs
        go_wp2_with (go_at_call 50; refine (l6In_any _ _ _ _).mono ?_; rintro e w' ⟨rfl, rfl⟩)
        go_round
        case rel => exact ⟨k + 1, by omega, by go_num, HS⟩
        case measure => simp [intOf]; omega
      · have hb' : inB x 0 255 = false := by simpa using hb
        have hf : Hid (blockV zs = false) := Lib.hid (by
          rw [hb'] at hs
          simp only [blockV, allB_take (k := k + 1) (by rw [hs]; rfl), Bool.false_and])
        clear hs hb
        go_wp2_with (go_at_call 50; refine (l6In_any _ _ _ _).mono ?_; rintro e w' ⟨rfl, rfl⟩)
        go_ret
        rw [hf.out]
        exact ⟨rfl, rfl⟩
    · obtain rfl : k = n := by omega
      have hf : Hid (blockV zs = inB k 1 8) := Lib.hid (by
        have h := he.out
        rw [List.take_of_length_le (by have := hl.out; omega)] at h
        simp only [blockV, h, Bool.true_and, hl.out])
      go_wp2_with (go_at_call 50; refine (l6In_any _ _ _ _).mono ?_; rintro e w' ⟨rfl, rfl⟩)
      go_ret
      rw [hf.out]
      exact ⟨rfl, rfl⟩


set_option maxHeartbeats 400000 in
theorem bytesValid_any (a : Option Addr) (n c : Nat) (zs : List Int) (w : World) (hr : RdI w a n zs) (hn : n ≤ 4611686018427387904) :
    Calls Try.prog 61 #[.slice a n c] w fun e w' => e = .returned (.bool (allB zs)) ∧ w = w' := by
  have hl := Lib.hid hr.1
  go_enter Try.func61, Try.ntmps61
  go_wp2
  go_loop [7] (fun i => ∃ k : Nat, k ≤ n ∧ i = .int .i64 k ∧ Hid (allB (zs.take k) = true)) (fun i => n - (intOf i).toNat)
  case atStart => exact ⟨0, Nat.zero_le _, rfl, Lib.hid (by simp [allB])⟩
  case round =>
    obtain ⟨k, hk, rfl, he⟩ := hrel
    by_cases hlt : k < n
    · obtain ⟨b, off, rfl, x, hx, hcell⟩ := hr.at_ hlt
      have hs := allB_succ (zs := zs) (k := k) (by have := hl.out; omega)
      rw [he.out, ← hx] at hs
      have HX := Lib.hid hx
      clear hx
      by_cases h0 : x < 0
      · have hf : Hid (allB zs = false) := Lib.hid (by
          rw [show inB x 0 255 = false by simp [inB]; omega] at hs
          simp only [allB_take (k := k + 1) (by rw [hs]; rfl)])
        clear hs
        go_wp2
        go_ret
        rw [hf.out]
        exact ⟨rfl, rfl⟩
      · by_cases h1 : 255 < x
        · have hf : Hid (allB zs = false) := Lib.hid (by
            rw [show inB x 0 255 = false by simp [inB]; omega] at hs
            simp only [allB_take (k := k + 1) (by rw [hs]; rfl)])
          clear hs
          go_wp2
          go_ret
          rw [hf.out]
          exact ⟨rfl, rfl⟩
        · have HS : Hid (allB (zs.take (k + 1)) = true) := Lib.hid (by rw [hs, show inB x 0 255 = true by simp [inB]; omega]; rfl)
          clear hs
          go_wp2
          go_round
          case rel => exact ⟨k + 1, by omega, by go_num, HS⟩
          case measure => simp [intOf]; omega
    · obtain rfl : k = n := by omega
      have hf : Hid (allB zs = true) := Lib.hid (by
        have h := he.out
        rw [List.take_of_length_le (by have := hl.out; omega)] at h
        exact h)
      go_wp2
      go_ret
      rw [hf.out]
      exact ⟨rfl, rfl⟩

set_option maxHeartbeats 400000 in
theorem implBlockValid_any (a : Option Addr) (n c : Nat) (zs : List Int) (w : World) (hr : RdI w a n zs) (hn : n ≤ 4611686018427387904) :
    Calls Try.prog 45 #[.slice a n c] w fun e w' => e = .returned (.bool (blockV zs)) ∧ w = w' := by
  have hl := hr.1
  by_cases h1 : 1 ≤ n
  · by_cases h8 : n ≤ 8
    · have hf : Hid (blockV zs = allB zs) := Lib.hid (by simp [blockV, inB, hl]; omega)
      clear hl
      go_enter Try.func45, Try.ntmps45
      go_wp2_with (go_at_call 61; refine (bytesValid_any a n c zs _ hr hn).mono ?_; rintro e w' ⟨rfl, rfl⟩)
      go_ret
      rw [hf.out]
      exact ⟨rfl, rfl⟩
    · have hf : Hid (blockV zs = false) := Lib.hid (by simp [blockV, inB, hl]; omega)
      clear hl
      go_enter Try.func45, Try.ntmps45
      go_wp2
      go_ret
      rw [hf.out]
      exact ⟨rfl, rfl⟩
  · have hf : Hid (blockV zs = false) := Lib.hid (by simp [blockV, inB, hl]; omega)
    clear hl
    go_enter Try.func45, Try.ntmps45
    go_wp2
    go_ret
    rw [hf.out]
    exact ⟨rfl, rfl⟩

end Go.Proofs.Ytajheicheefpeaa

/- Plain: when a store is valid. -/
namespace Go.Proofs.Ytajheicheefpeaa
set_option linter.unusedVariables false

/-- A block of a store is valid. -/
def okH (v : Int × List Int × Int) : Bool := inB v.1 1 99 && blockV v.2.1 && inB v.2.2 1 999
/-- A block is ahead of another one. -/
def befH (x y : Int × List Int × Int) : Bool := decide (x.1 < y.1)
/-- No two blocks are equal. -/
def neH (x y : Int × List Int × Int) : Prop := x.2.1 ≠ y.2.1
/-- A store is valid. -/
def storeV (vs : List (Int × List Int × Int)) : Bool := chainV okH befH 16 vs && vs.all fun x => decide ((vs.filter fun y => decide (y.2.1 = x.2.1)).length ≤ 1)

theorem befH_irrefl (x : Int × List Int × Int) : befH x x = false := by simp [befH]
theorem befH_trans (x y z : Int × List Int × Int) (h1 : befH x y = true) (h2 : befH y z = true) : befH x z = true := by
  simp only [befH, decide_eq_true_eq] at *; omega

theorem filter_le_one {α : Type} {p : α → Bool} {xs : List α} : (xs.filter p).length ≤ 1 ↔ ∀ i j (hi : i < xs.length) (hj : j < xs.length), i < j → ¬ (p xs[i] = true ∧ p xs[j] = true) := by
  induction xs with
  | nil => simp
  | cons x xs ih =>
    constructor
    · intro h i j hi hj hij ⟨h1, h2⟩
      cases j with
      | zero => omega
      | succ j =>
        simp only [List.length_cons, Nat.add_lt_add_iff_right] at hj
        rw [List.getElem_cons_succ] at h2
        cases i with
        | zero =>
          rw [List.getElem_cons_zero] at h1
          rw [List.filter_cons_of_pos h1, List.length_cons] at h
          have : (xs.filter p).length = 0 := by omega
          have hm : xs[j] ∈ xs.filter p := List.mem_filter.2 ⟨List.getElem_mem _, h2⟩
          rw [List.length_eq_zero_iff] at this
          rw [this] at hm
          cases hm
        | succ i =>
          simp only [List.length_cons, Nat.add_lt_add_iff_right] at hi
          rw [List.getElem_cons_succ] at h1
          refine ih.1 ?_ i j hi hj (by omega) ⟨h1, h2⟩
          refine Nat.le_trans ?_ h
          cases hp : p x with
          | true => rw [List.filter_cons_of_pos hp]; simp
          | false => rw [List.filter_cons_of_neg (by simp [hp])]; exact Nat.le_refl _
    · intro h
      cases hp : p x with
      | false =>
        rw [List.filter_cons_of_neg (by simp [hp])]
        refine ih.2 (fun i j hi hj hij hh => h (i + 1) (j + 1) (by simpa using hi) (by simpa using hj) (by omega) (by simpa using hh))
      | true =>
        rw [List.filter_cons_of_pos hp, List.length_cons]
        have : xs.filter p = [] := by
          rw [List.filter_eq_nil_iff]
          intro y hy hpy
          obtain ⟨j, hj, rfl⟩ := List.getElem_of_mem hy
          exact h 0 (j + 1) (by simp) (by simpa using hj) (by omega) (by simp [hp, hpy])
        rw [this]; simp

/-- The two parts of a store's validity. -/
theorem storeV_iff {vs : List (Int × List Int × Int)} : storeV vs = true ↔ chainV okH befH 16 vs = true ∧ vs.Pairwise neH := by
  unfold storeV
  rw [Bool.and_eq_true, List.all_eq_true]
  constructor
  · rintro ⟨h1, h2⟩
    refine ⟨h1, ?_⟩
    rw [List.pairwise_iff_getElem]
    intro i j hi hj hij he
    have := h2 _ (List.getElem_mem hi)
    simp only [decide_eq_true_eq] at this
    exact filter_le_one.1 this i j hi hj hij ⟨by simp, by simpa using he.symm⟩
  · rintro ⟨h1, h2⟩
    refine ⟨h1, fun x hx => ?_⟩
    simp only [decide_eq_true_eq]
    rw [filter_le_one]
    intro i j hi hj hij ⟨e1, e2⟩
    simp only [decide_eq_true_eq] at e1 e2
    rw [List.pairwise_iff_getElem] at h2
    exact h2 i j hi hj hij (e1.trans e2.symm)

theorem storeV_bad {vs : List (Int × List Int × Int)} {j : Nat} (hj : j < vs.length) (h : goodAt okH befH vs j = false) : storeV vs = false := by
  unfold storeV; rw [chainV_bad hj h]; rfl

theorem storeV_long {vs : List (Int × List Int × Int)} (h : 16 < vs.length) : storeV vs = false := by
  unfold storeV; rw [chainV_long h]; rfl

theorem storeV_twin {vs : List (Int × List Int × Int)} {i j : Nat} {x y : Int × List Int × Int} (hi : vs[i]? = some x) (hj : vs[j]? = some y) (hij : i < j) (he : x.2.1 = y.2.1) : storeV vs = false := by
  cases h : storeV vs with
  | false => rfl
  | true =>
    obtain ⟨_, h2⟩ := storeV_iff.1 h
    obtain ⟨h3, rfl⟩ := List.getElem?_eq_some_iff.1 hi
    obtain ⟨h4, rfl⟩ := List.getElem?_eq_some_iff.1 hj
    rw [List.pairwise_iff_getElem] at h2
    exact absurd he (h2 i j h3 h4 hij)

/-- So far no two are equal: the next one. -/
def noTwin (vs : List (Int × List Int × Int)) (i : Nat) : Prop := ∀ a b x y, a < b → b < i → vs[a]? = some x → vs[b]? = some y → x.2.1 ≠ y.2.1

theorem noTwin_zero (vs : List (Int × List Int × Int)) : noTwin vs 0 := fun a b x y h1 h2 => by omega

theorem noTwin_succ {vs : List (Int × List Int × Int)} {i : Nat} {y : Int × List Int × Int} (h : noTwin vs i) (hy : vs[i]? = some y) (hk : ∀ k x, k < i → vs[k]? = some x → x.2.1 ≠ y.2.1) : noTwin vs (i + 1) := by
  intro a b x z h1 h2 hx hz
  rcases Nat.lt_or_ge b i with hb | hb
  · exact h a b x z h1 hb hx hz
  · obtain rfl : b = i := by omega
    rw [hy] at hz
    injection hz with hz
    subst hz
    exact hk a x h1 hx

theorem storeV_all {vs : List (Int × List Int × Int)} (h : ∀ j, j < vs.length → goodAt okH befH vs j = true) (ht : noTwin vs vs.length) : storeV vs = decide (vs.length ≤ 16) := by
  have h1 := chainV_all (m := 16) h
  by_cases hl : vs.length ≤ 16
  · rw [decide_eq_true hl]
    rw [decide_eq_true hl] at h1
    refine storeV_iff.2 ⟨h1, ?_⟩
    rw [List.pairwise_iff_getElem]
    intro i j hi hj hij
    exact ht i j _ _ hij hj (List.getElem?_eq_getElem hi) (List.getElem?_eq_getElem hj)
  · rw [decide_eq_false hl]
    exact storeV_long (by omega)

/-- A block less. -/
theorem store_less {vs : List (Int × List Int × Int)} (h : storeV vs = true) (k : Nat) : storeV (vs.take k ++ vs.drop (k + 1)) = true := by
  obtain ⟨h1, h2⟩ := storeV_iff.1 h
  refine storeV_iff.2 ⟨chain_less befH_trans h1 k, ?_⟩
  have hs : (vs.take k ++ vs.drop (k + 1)).Sublist vs := by
    conv => rhs; rw [← List.take_append_drop k vs]
    refine List.Sublist.append (List.Sublist.refl _) ?_
    rw [← List.drop_drop]
    exact List.drop_sublist _ _
  exact h2.sublist hs

theorem store_twice {vs : List (Int × List Int × Int)} {k : Nat} (hk : k < vs.length) : storeV (vs.take (k + 1) ++ vs.drop k) = false := by
  unfold storeV; rw [chain_twice befH_irrefl hk]; rfl

end Go.Proofs.Ytajheicheefpeaa

/- Contracts of the reference's StoreValid. -/
namespace Go.Proofs.Ytajheicheefpeaa
open Go.RowKit
set_option linter.unusedVariables false

theorem valsH_get {xs : List HV} {k : Nat} {x : HV} (h : xs[k]? = some x) : (valsH xs)[k]? = some x.val := by unfold valsH; rw [List.getElem?_map, h]; rfl
theorem valsH_len (xs : List HV) : (valsH xs).length = xs.length := by simp [valsH]

theorem one_boxH (w : World) (a b c : Value) (t : TypeId) :
    w.heap.size < (w.alloc (.cells #[a, b, c] t)).heap.size ∧ (w.alloc (.cells #[a, b, c] t)).cell? ⟨w.heap.size, 0, none⟩ = some a ∧ (w.alloc (.cells #[a, b, c] t)).cell? ⟨w.heap.size, 1, none⟩ = some b ∧ (w.alloc (.cells #[a, b, c] t)).cell? ⟨w.heap.size, 2, none⟩ = some c := by
  have h1 : ∀ j, (w.alloc (.cells #[a, b, c] t)).cell? ⟨w.heap.size, j, none⟩ = #[a, b, c][j]? := fun j => cell_of_row _ w.heap.size _ _ _ (0, 0) (heap_alloc_new w _)
  exact ⟨by simp, by rw [h1]; rfl, by rw [h1]; rfl, by rw [h1]; rfl⟩

theorem still_of {f : FuncId} {args : Array Value} {w : World} {v : Value} (h : Calls Try.prog f args w fun e w' => e = .returned v ∧ w = w') : Calls Try.prog f args w fun e w' => e = .returned v ∧ w' = w :=
  h.mono fun e w' h => ⟨h.1, h.2.symm⟩

theorem good_bad0 {xs : List HV} {k : Nat} {x : HV} (hx : xs[k]? = some x) (h : okH x.val = false) : storeV (valsH xs) = false := by
  have hv := valsH_get hx
  refine storeV_bad (j := k) (List.getElem?_eq_some_iff.1 hv).1 ?_
  cases k with
  | zero => rw [goodAt_zero hv]; exact h
  | succ k =>
    obtain ⟨y, hy⟩ : ∃ y, (valsH xs)[k + 1 - 1]? = some y := ⟨_, List.getElem?_eq_getElem (by have := (List.getElem?_eq_some_iff.1 hv).1; omega)⟩
    rw [goodAt_succ (by omega) hv hy, h, Bool.false_and]

theorem good_bad1 {xs : List HV} {k : Nat} {x y : HV} (h0 : 0 < k) (hx : xs[k]? = some x) (hy : xs[k - 1]? = some y) (h : ¬ y.id < x.id) : storeV (valsH xs) = false := by
  have hv := valsH_get hx
  refine storeV_bad (j := k) (List.getElem?_eq_some_iff.1 hv).1 ?_
  rw [goodAt_succ h0 hv (valsH_get hy), show befH y.val x.val = false from decide_eq_false h, Bool.and_false]

theorem good_yes0 {xs : List HV} {x : HV} (hx : xs[0]? = some x) (h : okH x.val = true) : goodAt okH befH (valsH xs) 0 = true := by rw [goodAt_zero (valsH_get hx)]; exact h
theorem good_yes1 {xs : List HV} {k : Nat} {x y : HV} (h0 : 0 < k) (hx : xs[k]? = some x) (hy : xs[k - 1]? = some y) (h : okH x.val = true) (hlt : y.id < x.id) : goodAt okH befH (valsH xs) k = true := by
  rw [goodAt_succ h0 (valsH_get hx) (valsH_get hy), h, show befH y.val x.val = true from decide_eq_true hlt]; rfl

theorem quiet_q {f : FuncId} {args : Array Value} {w : World} {q r : Nat} {v : Value} (h : Calls Try.prog f args (w.drewN (q + r)) fun e w' => e = .returned v ∧ ∃ m, w' = (w.drewN (q + r)).drewN m) :
    Calls Try.prog f args (w.drewN (q + r)) fun e w'' => e = .returned v ∧ ∃ m, w'' = w.drewN (q + m) := by
  refine h.mono ?_
  rintro e w' ⟨h1, m, h2⟩
  refine ⟨h1, r + m, ?_⟩
  rw [h2, World.drewN_drewN, Nat.add_assoc]

set_option maxHeartbeats 1000000 in
theorem specStoreValid_any (a : Option Addr) (n c : Nat) (xs : List HV) (w : World) (hr : RdR eltH w a n xs) (hi : InH w xs) (hs : ∀ x ∈ xs, x.zs.length ≤ 4611686018427387904) (hn : n ≤ 4611686018427387904) :
    Calls Try.prog 32 #[.slice a n c] w (RetB w (.bool (storeV (valsH xs)))) := by
  have hl := Lib.hid hr.1
  have HI := Lib.hid hi
  have HS := Lib.hid hs
  clear hi hs
  go_enter Try.func32, Try.ntmps32
  go_wp2
  go_loopw [3] (fun i wr => ∃ k : Nat, k ≤ n ∧ i = .int .i64 k ∧ Hid (∀ j, j < k → goodAt okH befH (valsH xs) j = true) ∧ Hid (noTwin (valsH xs) k) ∧ Below w.heap.size w wr)
    (fun i _ => n - (intOf i).toNat)
  case atStart => exact ⟨0, Nat.zero_le _, rfl, Lib.hid (fun j h => by omega), Lib.hid (noTwin_zero _), Below.refl _ _⟩
  case round =>
    obtain ⟨k, hk, rfl, hgood, htw, hb⟩ := hrel
    by_cases hlt : k < n
    · obtain ⟨b, off, x, rfl, hbl, hx, c0, c1, c2⟩ := atH (hr.below hb) hlt
      have hsx := HS.out x (List.mem_of_getElem? hx)
      have hrx := (HI.out x (List.mem_of_getElem? hx)).below hb
      have HX := Lib.hid hx
      clear hx
      have hbx := one_boxH wr (.int .i64 x.id) (.slice x.ad x.zs.length x.cp) (.int .i64 x.us) 45
      have hHl := hbx.1
      have q0 := hbx.2.1
      have q1 := hbx.2.2.1
      have q2 := hbx.2.2.2
      have hbw := hb.alloc hb.size (.cells #[.int .i64 x.id, .slice x.ad x.zs.length x.cp, .int .i64 x.us] 45)
      have hwb : Below wr.heap.size wr (wr.alloc (.cells #[.int .i64 x.id, .slice x.ad x.zs.length x.cp, .int .i64 x.us] 45)) := (Below.refl _ _).alloc (Nat.le_refl _) _
      have hrx1 := hrx.below hwb
      clear hbx
      have K1 := fun w => still_of (l6In_any x.id 1 99 w)
      have K2 := fun m => still_of (specBlockValid_any x.ad x.zs.length x.cp x.zs ((wr.alloc (.cells #[.int .i64 x.id, .slice x.ad x.zs.length x.cp, .int .i64 x.us] 45)).drewN m) hrx1 hsx)
      have K3 := fun w => still_of (l6In_any x.us 1 999 w)
      have hokd : okH x.val = (inB x.id 1 99 && blockV x.zs && inB x.us 1 999) := rfl
      cases h1 : inB x.id 1 99 with
      | false =>
        rw [h1] at K1
        have HF := Lib.hid (good_bad0 HX.out (by rw [hokd, h1]; rfl))
        clear h1 hokd
        go_wp2
        generalize wr.alloc (.cells #[.int .i64 x.id, .slice x.ad x.zs.length x.cp, .int .i64 x.us] 45) = W1 at hHl q0 q1 q2 hbw hrx1 K2 ⊢
        go_quiet ((first
          | (go_at_call_of 50 (Value.int .i64 99); exact Calls.quiet_of_same (K1 _))
          | (go_at_call_of 50 (Value.int .i64 999); exact Calls.quiet_of_same (K3 _))
          | (go_at_call 51; exact Calls.quiet_of_same (K2 _))))
        go_wp2
        go_ret
        rw [HF.out]
        exact ⟨rfl, below_drewNH hbw _⟩
      | true =>
        cases h2 : blockV x.zs with
        | false =>
          rw [h1] at K1
          rw [h2] at K2
          have HF := Lib.hid (good_bad0 HX.out (by rw [hokd, h1, h2]; rfl))
          clear h1 h2 hokd
          go_wp2
          generalize wr.alloc (.cells #[.int .i64 x.id, .slice x.ad x.zs.length x.cp, .int .i64 x.us] 45) = W1 at hHl q0 q1 q2 hbw hrx1 K2 ⊢
          go_quiet ((first
            | (go_at_call_of 50 (Value.int .i64 99); exact Calls.quiet_of_same (K1 _))
            | (go_at_call_of 50 (Value.int .i64 999); exact Calls.quiet_of_same (K3 _))
            | (go_at_call 51; exact Calls.quiet_of_same (K2 _))))
          go_wp2
          go_ret
          rw [HF.out]
          exact ⟨rfl, below_drewNH hbw _⟩
        | true =>
          cases h3 : inB x.us 1 999 with
          | false =>
            rw [h1] at K1
            rw [h2] at K2
            rw [h3] at K3
            have HF := Lib.hid (good_bad0 HX.out (by rw [hokd, h1, h2, h3]; rfl))
            clear h1 h2 h3 hokd
            go_wp2
            generalize wr.alloc (.cells #[.int .i64 x.id, .slice x.ad x.zs.length x.cp, .int .i64 x.us] 45) = W1 at hHl q0 q1 q2 hbw hrx1 K2 ⊢
            go_quiet ((first
              | (go_at_call_of 50 (Value.int .i64 99); exact Calls.quiet_of_same (K1 _))
              | (go_at_call_of 50 (Value.int .i64 999); exact Calls.quiet_of_same (K3 _))
              | (go_at_call 51; exact Calls.quiet_of_same (K2 _))))
            go_wp2
            go_ret
            rw [HF.out]
            exact ⟨rfl, below_drewNH hbw _⟩
          | true =>
            rw [h1] at K1
            rw [h2] at K2
            rw [h3] at K3
            have hok : Hid (okH x.val = true) := Lib.hid (by rw [hokd, h1, h2, h3]; rfl)
            clear h1 h2 h3 hokd
            by_cases hk0 : k = 0
            · subst hk0
              have HG := Lib.hid (good_step hgood.out (good_yes0 HX.out hok.out))
              simp only [Nat.zero_mul, Nat.add_zero] at c0 c1 c2
              go_wp2
              generalize wr.alloc (.cells #[.int .i64 x.id, .slice x.ad x.zs.length x.cp, .int .i64 x.us] 45) = W1 at hHl q0 q1 q2 hbw hrx1 K2 hwb ⊢
              go_quiet ((first
                | (go_at_call_of 50 (Value.int .i64 99); exact Calls.quiet_of_same (K1 _))
                | (go_at_call_of 50 (Value.int .i64 999); exact Calls.quiet_of_same (K3 _))
                | (go_at_call 51; exact Calls.quiet_of_same (K2 _))))
              have hbI : Below w.heap.size w (W1.drewN nq) := below_drewNH hbw nq
              have HW1 := Lib.hid hwb
              go_wp2
              go_loopw [5] (fun i wi => ∃ m : Nat, m ≤ 0 ∧ i = .int .i64 m ∧ Hid (∀ j y, j < m → xs[j]? = some y → y.zs ≠ x.zs) ∧ ∃ q, wi = W1.drewN q)
                (fun i _ => 0 - (intOf i).toNat)
              case atStart => exact ⟨0, Nat.zero_le _, rfl, Lib.hid (fun j y h => by omega), nq, rfl⟩
              case round =>
                obtain ⟨m, hm, rfl, hne, q, rfl⟩ := hrel
                by_cases hml : m < 0
                · exact absurd hml (by omega)
                · obtain rfl : m = 0 := by omega
                  have HT := Lib.hid (noTwin_succ htw.out (valsH_get HX.out) (fun j v hj hv => by
                    unfold valsH at hv
                    rw [List.getElem?_map] at hv
                    cases hz : xs[j]? with
                    | none => rw [hz] at hv; cases hv
                    | some z =>
                      rw [hz] at hv
                      injection hv with hv
                      rw [← hv]
                      exact hne.out j z hj hz))
                  go_wp2
                  go_roundw
                  case rel => exact ⟨1, by omega, by go_num, HG, HT, below_drewNH hbw _⟩
                  case measure => simp [intOf]; omega
            · obtain ⟨b2, off2, y, hbo, _, hy, e0, e1, e2⟩ := atH ((hr.below hb).below hwb) (show k - 1 < n by omega)
              injection hbo with hbo
              injection hbo with hbo1 hbo2
              subst hbo1 hbo2
              have i1 : (0 : Int) < (k : Int) := by omega
              have i6 : 0 < k := by omega
              have i9 : (1 : Int) ≤ (k : Int) := by omega
              have i10 : 1 ≤ k := by omega
              have i7 : decide ((0 : Int) < (k : Int)) = true := by simp; omega
              have i8 : decide (0 < k) = true := by simp; omega
              have i2 : (0 : Int) ≤ (k : Int) - 1 := by omega
              have i3 : ((k : Int) - 1).toNat = k - 1 := by omega
              have i4 : IntKind.i64.wrap ((k : Int) - 1) = (k : Int) - 1 := IntWalk.i64_in _ (by omega)
              have i5 : (k : Int) - 1 < (n : Int) := by omega
              clear e1 e2
              by_cases hyx : y.id < x.id
              · have dyx : decide (x.id ≤ y.id) = false := by simp; omega
                have HG := Lib.hid (good_step hgood.out (good_yes1 i6 HX.out hy hok.out hyx))
                clear hy hyx
                go_wp2
                generalize wr.alloc (.cells #[.int .i64 x.id, .slice x.ad x.zs.length x.cp, .int .i64 x.us] 45) = W1 at hHl q0 q1 q2 hbw hrx1 K2 hwb e0 ⊢
                go_quiet ((first
                  | (go_at_call_of 50 (Value.int .i64 99); exact Calls.quiet_of_same (K1 _))
                  | (go_at_call_of 50 (Value.int .i64 999); exact Calls.quiet_of_same (K3 _))
                  | (go_at_call 51; exact Calls.quiet_of_same (K2 _))))
                have hbI : Below w.heap.size w (W1.drewN nq) := below_drewNH hbw nq
                have HW1 := Lib.hid hwb
                go_wp2
                go_loopw [5] (fun i wi => ∃ m : Nat, m ≤ k ∧ i = .int .i64 m ∧ Hid (∀ j y, j < m → xs[j]? = some y → y.zs ≠ x.zs) ∧ ∃ q, wi = W1.drewN q)
                  (fun i _ => k - (intOf i).toNat)
                case atStart => exact ⟨0, Nat.zero_le _, rfl, Lib.hid (fun j y h => by omega), nq, rfl⟩
                case round =>
                  obtain ⟨m, hm, rfl, hne, q, rfl⟩ := hrel
                  by_cases hml : m < k
                  · obtain ⟨b2, off2, y, hbo, hbl2, hy, d0, d1, d2⟩ := atH ((hr.below hb).below hwb) (show m < n by omega)
                    injection hbo with hbo
                    injection hbo with hbo1 hbo2
                    subst hbo1 hbo2
                    have hsy := HS.out y (List.mem_of_getElem? hy)
                    have hry := ((HI.out y (List.mem_of_getElem? hy)).below hb).below hwb
                    have HY := Lib.hid hy
                    clear hy d0 d2
                    have hk0 : (0 : Int) ≤ (m : Int) := by omega
                    have hk1 : (m : Int) < (n : Int) := by omega
                    have K4 := fun j => l2Same_any y.ad x.ad y.zs.length x.zs.length y.cp x.cp y.zs x.zs (W1.drewN j) hry hrx1 hsy hsx
                    by_cases hyx : y.zs = x.zs
                    · have HF := Lib.hid (show storeV (valsH xs) = false from storeV_twin (valsH_get HY.out) (valsH_get HX.out) (by omega) hyx)
                      rw [show eqI y.zs x.zs = true by simp [eqI, hyx]] at K4
                      clear hyx
                      go_wp2
                      go_quiet ((go_at_call 52; exact quiet_q (K4 _)))
                      go_wp2
                      go_ret
                      rw [HF.out]
                      exact ⟨rfl, below_drewNH (below_drewNH hbw _) _⟩
                    · rw [show eqI y.zs x.zs = false by simp [eqI, hyx]] at K4
                      have HN : Hid (∀ j z, j < m + 1 → xs[j]? = some z → z.zs ≠ x.zs) := Lib.hid (fun j z hj hz => by
                        rcases Nat.lt_or_ge j m with h | h
                        · exact hne.out j z h hz
                        · obtain rfl : j = m := by omega
                          rw [HY.out] at hz
                          injection hz with hz
                          rw [← hz]; exact hyx)
                      clear hyx
                      go_wp2
                      go_quiet ((go_at_call 52; exact quiet_q (K4 _)))
                      go_wp2
                      go_roundw
                      case rel => exact ⟨m + 1, by omega, by go_num, HN, _, rfl⟩
                      case measure => simp [intOf]; omega
                  · obtain rfl : m = k := by omega
                    have HT := Lib.hid (noTwin_succ htw.out (valsH_get HX.out) (fun j v hj hv => by
                      unfold valsH at hv
                      rw [List.getElem?_map] at hv
                      cases hz : xs[j]? with
                      | none => rw [hz] at hv; cases hv
                      | some z =>
                        rw [hz] at hv
                        injection hv with hv
                        rw [← hv]
                        exact hne.out j z hj hz))
                    go_wp2
                    go_roundw
                    case rel => exact ⟨m + 1, by omega, by go_num, HG, HT, below_drewNH hbw _⟩
                    case measure => simp [intOf]; omega
              · have dyx : decide (x.id ≤ y.id) = true := by simp; omega
                have HF := Lib.hid (good_bad1 i6 HX.out hy hyx)
                clear hy hyx
                go_wp2
                generalize wr.alloc (.cells #[.int .i64 x.id, .slice x.ad x.zs.length x.cp, .int .i64 x.us] 45) = W1 at hHl q0 q1 q2 hbw hrx1 K2 e0 ⊢
                go_quiet ((first
                  | (go_at_call_of 50 (Value.int .i64 99); exact Calls.quiet_of_same (K1 _))
                  | (go_at_call_of 50 (Value.int .i64 999); exact Calls.quiet_of_same (K3 _))
                  | (go_at_call 51; exact Calls.quiet_of_same (K2 _))))
                go_wp2
                go_ret
                rw [HF.out]
                exact ⟨rfl, below_drewNH hbw _⟩
    · obtain rfl : k = n := by omega
      have HG := Lib.hid (show storeV (valsH xs) = decide ((valsH xs).length ≤ 16) from storeV_all (by rw [valsH_len, hl.out]; exact hgood.out) (by rw [valsH_len, hl.out]; exact htw.out))
      have h8 : Hid (decide ((k : Int) ≤ 16) = decide ((valsH xs).length ≤ 16)) := Lib.hid (by rw [valsH_len, hl.out]; by_cases h : k ≤ 16 <;> simp [h] <;> omega)
      go_wp2
      go_ret
      rw [HG.out, ← h8.out]
      exact ⟨rfl, hb⟩
    
    end Go.Proofs.Ytajheicheefpeaa

/- Contract of slices.Equal at ints. -/
namespace Go.Proofs.Ytajheicheefpeaa
open Go.RowKit
set_option linter.unusedVariables false

set_option maxHeartbeats 400000 in
theorem slEqual_any (a a' : Option Addr) (n n' c c' : Nat) (xs ys : List Int) (w : World) (hr : RdI w a n xs) (hr' : RdI w a' n' ys) (hn : n ≤ 4611686018427387904) (hn' : n' ≤ 4611686018427387904) :
    Calls Try.prog 46 #[.slice a n c, .slice a' n' c'] w (RetQ w (.bool (eqI xs ys))) := by
  have hl := Lib.hid hr.1
  have hl' := Lib.hid hr'.1
  by_cases hnn : n = n'
  · subst hnn
    go_enter Try.func46, Try.ntmps46
    go_wp2
    go_loopw [13] (fun i wr => ∃ k : Nat, k ≤ n ∧ i = .int .i64 k ∧ Hid (xs.take k = ys.take k) ∧ ∃ m, wr = w.drewN m)
      (fun i _ => n - (intOf i).toNat)
    case atStart => exact ⟨0, Nat.zero_le _, rfl, Lib.hid (by simp), 0, rfl⟩
    case round =>
      obtain ⟨k, hk, rfl, he, m, rfl⟩ := hrel
      by_cases hlt : k < n
      · obtain ⟨b, off, rfl, x, hx, hcell⟩ := hr.at_ hlt
        obtain ⟨b', off', rfl, y, hy, hcell'⟩ := hr'.at_ hlt
        have HX := Lib.hid hx
        have HY := Lib.hid hy
        clear hx hy
        have hk0 : (0 : Int) ≤ (k : Int) := by omega
        have hk1 : (k : Int) < (n : Int) := by omega
        by_cases hxy : x = y
        · have ht : (x != y) = false := by simp [hxy]
          have hs := take_succ_eq he.out (by have := hl.out; omega) (by have := hl'.out; omega) (by rw [← HX.out, ← HY.out, hxy])
          have HS := Lib.hid hs
          clear hxy hs
          go_wp2
          go_quiet (fail)
          go_wp2
          go_roundw
          case rel => exact ⟨k + 1, by omega, by go_num, HS, _, rfl⟩
          case measure => simp [intOf]; omega
        · have ht : (x != y) = true := by simp [hxy]
          have hf : Hid (eqI xs ys = false) := Lib.hid (eqI_false (k := k) (by rw [← HX.out, ← HY.out]; exact hxy))
          clear hxy
          go_wp2
          go_quiet (fail)
          go_wp2
          go_ret
          rw [hf.out]
          exact ⟨rfl, _, World.drewN_drewN _ _ _⟩
      · obtain rfl : k = n := by omega
        go_wp2
        go_ret
        have ht : eqI xs ys = true := by
          have h := he.out
          rw [List.take_of_length_le (by have := hl.out; omega), List.take_of_length_le (by have := hl'.out; omega)] at h
          simp [eqI, h]
        rw [ht]
        exact ⟨rfl, _, rfl⟩
  · have hf : Hid (eqI xs ys = false) := Lib.hid (by
      simp only [eqI, decide_eq_false_iff_not]; rintro rfl; have := hl.out; have := hl'.out; omega)
    go_enter Try.func46, Try.ntmps46
    go_wp2
    go_ret
    rw [hf.out]
    exact ⟨rfl, 0, rfl⟩

end Go.Proofs.Ytajheicheefpeaa

/- Contract of the program's StoreValid. -/
namespace Go.Proofs.Ytajheicheefpeaa
open Go.RowKit
set_option linter.unusedVariables false

theorem goodAt_ok {α : Type} {ok : α → Bool} {bef : α → α → Bool} {xs : List α} {j : Nat} {x : α} (h : goodAt ok bef xs j = true) (hx : xs[j]? = some x) : ok x = true := by
  unfold goodAt at h
  rw [hx] at h
  simp only [Bool.and_eq_true] at h
  exact h.1

/-- The id that came last. -/
def lastH (xs : List HV) (k : Nat) (l : Int) : Prop := (k = 0 ∧ l = 0) ∨ (0 < k ∧ ∃ y, xs[k - 1]? = some y ∧ l = y.id)

theorem last_bad {xs : List HV} {k : Nat} {l : Int} {x : HV} (h : lastH xs k l) (hx : xs[k]? = some x) (hle : x.id ≤ l) : storeV (valsH xs) = false := by
  rcases h with ⟨rfl, rfl⟩ | ⟨h0, y, hy, rfl⟩
  · refine good_bad0 hx ?_
    have : inB x.id 1 99 = false := by simp [inB]; omega
    show (inB x.id 1 99 && blockV x.zs && inB x.us 1 999) = false
    rw [this]; rfl
  · exact good_bad1 h0 hx hy (by omega)

theorem last_pos {xs : List HV} {k : Nat} {l : Int} (h : lastH xs k l) (hg : ∀ j, j < k → goodAt okH befH (valsH xs) j = true) : 0 ≤ l := by
  rcases h with ⟨rfl, rfl⟩ | ⟨h0, y, hy, rfl⟩
  · omega
  · have h1 := goodAt_ok (hg (k - 1) (by omega)) (valsH_get hy)
    have h2 : (inB y.id 1 99 && blockV y.zs && inB y.us 1 999) = true := h1
    simp only [Bool.and_eq_true, inB, decide_eq_true_eq] at h2
    omega

theorem last_good {xs : List HV} {k : Nat} {l : Int} {x : HV} (h : lastH xs k l) (hx : xs[k]? = some x) (hlt : l < x.id) (hok : okH x.val = true) : goodAt okH befH (valsH xs) k = true := by
  rcases h with ⟨rfl, rfl⟩ | ⟨h0, y, hy, rfl⟩
  · exact good_yes0 hx hok
  · exact good_yes1 h0 hx hy hok hlt

theorem last_next {xs : List HV} {k : Nat} {x : HV} (hx : xs[k]? = some x) : lastH xs (k + 1) x.id := .inr ⟨by omega, x, by rw [Nat.add_sub_cancel]; exact hx, rfl⟩

set_option maxHeartbeats 1000000 in
theorem implStoreValid_any (a : Option Addr) (n c : Nat) (xs : List HV) (w : World) (hr : RdR eltH w a n xs) (hi : InH w xs) (hs : ∀ x ∈ xs, x.zs.length ≤ 4611686018427387904) (hn : n ≤ c) (hc : c ≤ 9223372036854775807) :
    Calls Try.prog 26 #[.slice a n c] w (RetB w (.bool (storeV (valsH xs)))) := by
  have hl := Lib.hid hr.1
  have HI := Lib.hid hi
  have HS := Lib.hid hs
  clear hi hs
  by_cases hbig : 16 < n
  · have HF := Lib.hid (show storeV (valsH xs) = false from storeV_long (by rw [valsH_len, hl.out]; exact hbig))
    have d8 : decide ((16 : Int) < (n : Int)) = true := by simp; omega
    go_enter Try.func26, Try.ntmps26
    go_wp2
    go_ret
    rw [HF.out]
    exact ⟨rfl, Below.refl _ _⟩
  have d8 : decide ((16 : Int) < (n : Int)) = false := by simp; omega
  go_enter Try.func26, Try.ntmps26
  go_wp2
  go_loopw [3, 13] (fun v i wr => ∃ k : Nat, k ≤ n ∧ i = .int .i64 k ∧ (∃ l : Int, v = .int .i64 l ∧ Hid (lastH xs k l)) ∧ Hid (∀ j, j < k → goodAt okH befH (valsH xs) j = true) ∧ Hid (noTwin (valsH xs) k) ∧ Below w.heap.size w wr)
    (fun _ i _ => n - (intOf i).toNat)
  case atStart => exact ⟨0, Nat.zero_le _, rfl, ⟨0, rfl, Lib.hid (.inl ⟨rfl, rfl⟩)⟩, Lib.hid (fun j h => by omega), Lib.hid (noTwin_zero _), Below.refl _ _⟩
  case round =>
    obtain ⟨k, hk, rfl, ⟨l, rfl, hlast⟩, hgood, htw, hb⟩ := hrel
    by_cases hlt : k < n
    · obtain ⟨b, off, x, rfl, hbl, hx, c0, c1, c2⟩ := atH (hr.below hb) hlt
      have hsx := HS.out x (List.mem_of_getElem? hx)
      have hrx := (HI.out x (List.mem_of_getElem? hx)).below hb
      have HX := Lib.hid hx
      clear hx
      have hbx := one_boxH wr (.int .i64 x.id) (.slice x.ad x.zs.length x.cp) (.int .i64 x.us) 45
      have hHl := hbx.1
      have q0 := hbx.2.1
      have q1 := hbx.2.2.1
      have q2 := hbx.2.2.2
      have hbw := hb.alloc hb.size (.cells #[.int .i64 x.id, .slice x.ad x.zs.length x.cp, .int .i64 x.us] 45)
      have hwb : Below wr.heap.size wr (wr.alloc (.cells #[.int .i64 x.id, .slice x.ad x.zs.length x.cp, .int .i64 x.us] 45)) := (Below.refl _ _).alloc (Nat.le_refl _) _
      have hrx1 := hrx.below hwb
      clear hbx
      have hokd : okH x.val = (inB x.id 1 99 && blockV x.zs && inB x.us 1 999) := rfl
      by_cases h1 : x.id ≤ l
      · have d1 : decide (x.id ≤ l) = true := by simpa using h1
        have HF := Lib.hid (last_bad hlast.out HX.out h1)
        clear h1 hokd
        go_wp2
        go_ret
        rw [HF.out]
        exact ⟨rfl, hbw⟩
      have d_h1 : decide (x.id ≤ l) = false := by simpa using h1
      by_cases h2 : 99 < x.id
      · have d_h2 : decide (99 < x.id) = true := by simpa using h2
        have HF := Lib.hid (good_bad0 HX.out (by rw [hokd, show inB x.id 1 99 = false by simp [inB]; omega]; simp))
        clear h2 hokd
        go_wp2
        go_ret
        rw [HF.out]
        exact ⟨rfl, hbw⟩
      have d_h2 : decide (99 < x.id) = false := by simpa using h2
      by_cases h3 : x.us < 1
      · have d_h3 : decide (x.us < 1) = true := by simpa using h3
        have HF := Lib.hid (good_bad0 HX.out (by rw [hokd, show inB x.us 1 999 = false by simp [inB]; omega]; simp))
        clear h3 hokd
        go_wp2
        go_ret
        rw [HF.out]
        exact ⟨rfl, hbw⟩
      have d_h3 : decide (x.us < 1) = false := by simpa using h3
      by_cases h4 : 999 < x.us
      · have d_h4 : decide (999 < x.us) = true := by simpa using h4
        have HF := Lib.hid (good_bad0 HX.out (by rw [hokd, show inB x.us 1 999 = false by simp [inB]; omega]; simp))
        clear h4 hokd
        go_wp2
        go_ret
        rw [HF.out]
        exact ⟨rfl, hbw⟩
      have d_h4 : decide (999 < x.us) = false := by simpa using h4
      have K2 := still_of (implBlockValid_any x.ad x.zs.length x.cp x.zs _ hrx1 hsx)
      go_wp2_with fail
      with_reducible refine K2.mono ?_
      rintro e w2 ⟨rfl, hw2⟩
      subst hw2
      cases h5 : blockV x.zs with
      | false =>
        have HF := Lib.hid (good_bad0 HX.out (by rw [hokd, h5]; simp))
        clear h5 hokd h1 h2 h3 h4 K2
        go_wp2
        go_ret
        rw [HF.out]
        exact ⟨rfl, hbw⟩
      | true =>
        have hl0 := last_pos hlast.out hgood.out
        have hok : okH x.val = true := by
          rw [hokd, h5, show inB x.id 1 99 = true by simp [inB]; omega, show inB x.us 1 999 = true by simp [inB]; omega]; rfl
        have HG := Lib.hid (good_step hgood.out (last_good hlast.out HX.out (by omega) hok))
        clear h5 hokd h1 h2 h3 h4 K2 hok
        generalize wr.alloc (.cells #[.int .i64 x.id, .slice x.ad x.zs.length x.cp, .int .i64 x.us] 45) = W1 at hHl q0 q1 q2 hbw hrx1 hwb ⊢
        have hrW := (hr.below hb).below hwb
        have HIW : Hid (∀ y ∈ xs, RdI W1 y.ad y.zs.length y.zs) := Lib.hid (fun y hy => ((HI.out y hy).below hb).below hwb)
        obtain ⟨G, hG⟩ : ∃ G, wr.heap.size = G := ⟨_, rfl⟩
        rw [hG] at hHl q0 q1 q2 ⊢
        clear hG hwb hrx hbl hb c0 c1 c2 hr
        have hk0 : (0 : Int) ≤ (k : Int) := by omega
        have hkc : (k : Int) ≤ (c : Int) := by omega
        have hkn : k ≤ c := by omega
        go_wp2
        go_loopw [47] (fun i wi => ∃ m : Nat, m ≤ k ∧ i = .int .i64 m ∧ Hid (∀ j y, j < m → xs[j]? = some y → y.zs ≠ x.zs) ∧ Below W1.heap.size W1 wi)
          (fun i _ => k - (intOf i).toNat)
        case atStart => exact ⟨0, Nat.zero_le _, rfl, Lib.hid (fun j y h => by omega), Below.refl _ _⟩
        case round =>
          obtain ⟨m, hm, rfl, hne, hbi⟩ := hrel
          have hbW := hbw.trans (hbi.mono hbw.size)
          have q0' := (hbi.cell (p := ⟨G, 0, none⟩) hHl).trans q0
          have q1' := (hbi.cell (p := ⟨G, 1, none⟩) hHl).trans q1
          by_cases hml : m < k
          · obtain ⟨b2, off2, y, hbo, hbl2, hy, d0, d1, d2⟩ := atH (hrW.below hbi) (show m < n by omega)
            injection hbo with hbo
            injection hbo with hbo1 hbo2
            subst hbo1 hbo2
            have hsy := HS.out y (List.mem_of_getElem? hy)
            have hbx2 : Below wr.heap.size wr (wr.alloc (.cells #[.int .i64 y.id, .slice y.ad y.zs.length y.cp, .int .i64 y.us] 45)) := (Below.refl _ _).alloc (Nat.le_refl _) _
            have hry := ((HIW.out y (List.mem_of_getElem? hy)).below hbi).below hbx2
            have hrx2 := (hrx1.below hbi).below hbx2
            have hbi2 := hbi.alloc hbi.size (.cells #[.int .i64 y.id, .slice y.ad y.zs.length y.cp, .int .i64 y.us] 45)
            have hbo2 := one_boxH wr (.int .i64 y.id) (.slice y.ad y.zs.length y.cp) (.int .i64 y.us) 45
            have p1 := hbo2.2.2.1
            have r1 := (World.cell?_alloc_lt wr (.cells #[.int .i64 y.id, .slice y.ad y.zs.length y.cp, .int .i64 y.us] 45) ⟨G, 1, none⟩ (Nat.lt_of_lt_of_le hHl hbi.size)).trans q1'
            have HY := Lib.hid hy
            clear hy hbo2
            have hm0 : (0 : Int) ≤ (m : Int) := by omega
            have K4 := slEqual_any y.ad x.ad y.zs.length x.zs.length y.cp x.cp y.zs x.zs _ hry hrx2 hsy hsx
            by_cases hyx : y.zs = x.zs
            · have HF := Lib.hid (show storeV (valsH xs) = false from storeV_twin (valsH_get HY.out) (valsH_get HX.out) (by omega) hyx)
              rw [show eqI y.zs x.zs = true by simp [eqI, hyx]] at K4
              clear hyx
              go_wp2_with fail
              with_reducible refine K4.mono ?_
              rintro e w3 ⟨rfl, q, rfl⟩
              go_wp2
              go_ret
              rw [HF.out]
              exact ⟨rfl, below_drewNH (hbw.trans (hbi2.mono hbw.size)) _⟩
            · rw [show eqI y.zs x.zs = false by simp [eqI, hyx]] at K4
              have HN : Hid (∀ j z, j < m + 1 → xs[j]? = some z → z.zs ≠ x.zs) := Lib.hid (fun j z hj hz => by
                rcases Nat.lt_or_ge j m with h | h
                · exact hne.out j z h hz
                · obtain rfl : j = m := by omega
                  rw [HY.out] at hz
                  injection hz with hz
                  rw [← hz]; exact hyx)
              clear hyx
              go_wp2_with fail
              with_reducible refine K4.mono ?_
              rintro e w3 ⟨rfl, q, rfl⟩
              go_wp2
              go_roundw
              case rel => exact ⟨m + 1, by omega, by go_num, HN, below_drewNH hbi2 _⟩
              case measure => simp [intOf]; omega
          · obtain rfl : m = k := by omega
            have HT := Lib.hid (noTwin_succ htw.out (valsH_get HX.out) (fun j v hj hv => by
              unfold valsH at hv
              rw [List.getElem?_map] at hv
              cases hz : xs[j]? with
              | none => rw [hz] at hv; cases hv
              | some z =>
                rw [hz] at hv
                injection hv with hv
                rw [← hv]
                exact hne.out j z hj hz))
            have HL := Lib.hid (last_next HX.out)
            go_wp2
            go_roundw
            case rel => exact ⟨m + 1, by omega, by go_num, ⟨x.id, rfl, HL⟩, HG, HT, hbW⟩
            case measure => simp [intOf]; omega
    · obtain rfl : k = n := by omega
      have HG := Lib.hid (show storeV (valsH xs) = true by rw [show storeV (valsH xs) = decide ((valsH xs).length ≤ 16) from storeV_all (by rw [valsH_len, hl.out]; exact hgood.out) (by rw [valsH_len, hl.out]; exact htw.out), valsH_len]; have := hl.out; simp; omega)
      go_wp2
      go_ret
      rw [HG.out]
      exact ⟨rfl, hb⟩
    
    end Go.Proofs.Ytajheicheefpeaa

/- Contracts: spec.l2Sum, spec.BlockSum, impl.BlockSum. -/
namespace Go.Proofs.Ytajheicheefpeaa
open Go.RowKit

def sumL (zs : List Int) : Int := zs.foldl (fun s b => (263 * s + b) % 9973) 7
def blockSum (zs : List Int) : Int := if blockV zs = true then sumL zs else -1

theorem sumL_bd (zs : List Int) : 0 ≤ sumL zs ∧ sumL zs < 9973 := by
  rcases List.eq_nil_or_concat zs with rfl | ⟨l, x, rfl⟩
  · simp [sumL]
  · simp only [List.concat_eq_append, sumL, List.foldl_append, List.foldl_cons, List.foldl_nil]; omega

theorem sumL_succ {zs : List Int} {k : Nat} (h : k < zs.length) : sumL (zs.take (k + 1)) = (263 * sumL (zs.take k) + zs.getD k 0) % 9973 := by
  rw [List.take_succ_eq_append_getElem h]
  have e : zs.getD k 0 = zs[k] := by simp [List.getD, h]
  simp only [sumL, List.foldl_append, List.foldl_cons, List.foldl_nil, e]

theorem blockV_parts {zs : List Int} (h : blockV zs = true) : allB zs = true ∧ 1 ≤ zs.length ∧ zs.length ≤ 8 := by
  simp only [blockV, inB, Bool.and_eq_true, decide_eq_true_eq] at h
  exact ⟨h.1, by omega, by omega⟩

theorem allB_at {zs : List Int} (h : allB zs = true) {k : Nat} (hk : k < zs.length) : 0 ≤ zs.getD k 0 ∧ zs.getD k 0 ≤ 255 := by
  have e : zs.getD k 0 = zs[k] := by simp [List.getD, hk]
  simp only [allB, List.all_eq_true] at h
  rw [e]; exact inB_byte.1 (h _ (List.getElem_mem hk))

set_option maxHeartbeats 400000 in
theorem l2Sum_any (a : Option Addr) (n c : Nat) (zs : List Int) (w : World) (hr : RdI w a n zs) (hv : allB zs = true) (hn : n ≤ 4611686018427387904) :
    Calls Try.prog 33 #[.slice a n c] w fun e w' => e = .returned (.int .i64 (sumL zs)) ∧ w = w' := by
  have hl := Lib.hid hr.1
  have HV := Lib.hid hv
  clear hv
  go_enter Try.func33, Try.ntmps33
  go_wp2
  go_loop [3, 4] (fun s i => ∃ k : Nat, k ≤ n ∧ i = .int .i64 k ∧ ∃ t : Int, 0 ≤ t ∧ t < 9973 ∧ s = .int .i64 t ∧ Hid (t = sumL (zs.take k))) (fun _ i => n - (intOf i).toNat)
  case atStart => exact ⟨0, Nat.zero_le _, rfl, 7, by omega, by omega, rfl, Lib.hid (by simp [sumL])⟩
  case round =>
    obtain ⟨k, hk, rfl, t, ht0, ht1, rfl, ht⟩ := hrel
    by_cases hlt : k < n
    · obtain ⟨b, off, rfl, x, hx, hcell⟩ := hr.at_ hlt
      have hs := sumL_succ (zs := zs) (k := k) (by have := hl.out; omega)
      have hbd := allB_at HV.out (k := k) (by have := hl.out; omega)
      rw [← hx] at hs hbd
      rw [← ht.out] at hs
      obtain ⟨hx0, hx1⟩ := hbd
      clear hx
      have HS := Lib.hid hs
      clear hs
      go_wp2
      go_round
      case rel => exact ⟨k + 1, by omega, by go_num, _, by omega, by omega, rfl, Lib.hid (by rw [HS.out])⟩
      case measure => simp [intOf]; omega
    · obtain rfl : k = n := by omega
      go_wp2
      go_ret
      rw [ht.out, List.take_of_length_le (by have := hl.out; omega)]
      exact ⟨rfl, rfl⟩

set_option maxHeartbeats 400000 in
theorem implBlockSum_any (a : Option Addr) (n c : Nat) (zs : List Int) (w : World) (hr : RdI w a n zs) (hn : n ≤ 4611686018427387904) :
    Calls Try.prog 30 #[.slice a n c] w fun e w' => e = .returned (.int .i64 (blockSum zs)) ∧ w = w' := by
  have hl := Lib.hid hr.1
  by_cases hv : blockV zs = true
  · have hf : Hid (blockSum zs = sumL zs) := Lib.hid (by simp [blockSum, hv])
    have HV := Lib.hid (blockV_parts hv).1
    go_enter Try.func30, Try.ntmps30
    go_wp2_with (go_at_call 45; refine (implBlockValid_any a n c zs _ hr hn).mono ?_; rintro e w' ⟨rfl, rfl⟩)
    clear hv
    go_loop [3, 11] (fun s i => ∃ k : Nat, k ≤ n ∧ i = .int .i64 k ∧ ∃ t : Int, 0 ≤ t ∧ t < 9973 ∧ s = .int .i64 t ∧ Hid (t = sumL (zs.take k))) (fun _ i => n - (intOf i).toNat)
    case atStart => exact ⟨0, Nat.zero_le _, rfl, 7, by omega, by omega, rfl, Lib.hid (by simp [sumL])⟩
    case round =>
      obtain ⟨k, hk, rfl, t, ht0, ht1, rfl, ht⟩ := hrel
      by_cases hlt : k < n
      · obtain ⟨b, off, rfl, x, hx, hcell⟩ := hr.at_ hlt
        have hs := sumL_succ (zs := zs) (k := k) (by have := hl.out; omega)
        have hbd := allB_at HV.out (k := k) (by have := hl.out; omega)
        rw [← hx] at hs hbd
        rw [← ht.out] at hs
        obtain ⟨hx0, hx1⟩ := hbd
        clear hx
        have HS := Lib.hid hs
        clear hs
        go_wp2
        go_round
        case rel => exact ⟨k + 1, by omega, by go_num, _, by omega, by omega, rfl, Lib.hid (by rw [HS.out])⟩
        case measure => simp [intOf]; omega
      · obtain rfl : k = n := by omega
        go_wp2
        go_ret
        rw [hf.out, ht.out, List.take_of_length_le (by have := hl.out; omega)]
        exact ⟨rfl, rfl⟩
  · have hv' : blockV zs = false := by simpa using hv
    have hf : Hid (blockSum zs = -1) := Lib.hid (by simp [blockSum, hv'])
    clear hv
    go_enter Try.func30, Try.ntmps30
    go_wp2_with (go_at_call 45; refine (implBlockValid_any a n c zs _ hr hn).mono ?_; rintro e w' ⟨rfl, rfl⟩)
    go_ret
    rw [hf.out]
    exact ⟨rfl, rfl⟩

end Go.Proofs.Ytajheicheefpeaa

/- Readings of slices of sums (two ints an element). -/
namespace Go.Proofs.Ytajheicheefpeaa
open Go.RowKit
set_option linter.unusedVariables false

/-- The first n elements from a on read as the pairs xs. -/
def RdX (w : World) (a : Option Addr) (n : Nat) (xs : List (Int × Int)) : Prop :=
  xs.length = n ∧ ∀ i, i < n → ∃ b off, a = some ⟨b, off, none⟩ ∧ b < w.heap.size ∧
    ∀ j, j < n → w.cell? ⟨b, off + j * 2, none⟩ = some (.int .i64 (xs.getD j (0, 0)).1) ∧ w.cell? ⟨b, off + j * 2 + 1, none⟩ = some (.int .i64 (xs.getD j (0, 0)).2)

/-- All numbers fit an int. -/
def WfX (xs : List (Int × Int)) : Prop := ∀ x ∈ xs, (-9223372036854775808 ≤ x.1 ∧ x.1 ≤ 9223372036854775807) ∧ -9223372036854775808 ≤ x.2 ∧ x.2 ≤ 9223372036854775807

theorem RdX.below {w w' : World} {a : Option Addr} {n : Nat} {xs : List (Int × Int)} (h : RdX w a n xs) (hb : Below w.heap.size w w') : RdX w' a n xs := by
  refine ⟨h.1, fun i hi => ?_⟩
  obtain ⟨b, off, rfl, hlt, hc⟩ := h.2 i hi
  exact ⟨b, off, rfl, Nat.lt_of_lt_of_le hlt hb.size, fun j hj => ⟨(hb.cell (p := ⟨b, off + j * 2, none⟩) hlt).trans (hc j hj).1, (hb.cell (p := ⟨b, off + j * 2 + 1, none⟩) hlt).trans (hc j hj).2⟩⟩

theorem RdX.drewN {w : World} {a : Option Addr} {n : Nat} {xs : List (Int × Int)} (h : RdX w a n xs) (k : Nat) : RdX (w.drewN k) a n xs := h

theorem getD_mem_pair {xs : List (Int × Int)} {i : Nat} (h : i < xs.length) : xs.getD i (0, 0) ∈ xs := by
  have e : xs.getD i (0, 0) = xs[i] := by simp [List.getD_eq_getElem?_getD, h]
  rw [e]; exact List.getElem_mem _

/-- An element, by name. -/
theorem RdX.at_ {w : World} {a : Option Addr} {n : Nat} {xs : List (Int × Int)} (h : RdX w a n xs) (hw : WfX xs) {i : Nat} (hi : i < n) :
    ∃ b off, a = some ⟨b, off, none⟩ ∧ b < w.heap.size ∧ ∃ f m, xs.getD i (0, 0) = (f, m) ∧ w.cell? ⟨b, off + i * 2, none⟩ = some (.int .i64 f) ∧ w.cell? ⟨b, off + i * 2 + 1, none⟩ = some (.int .i64 m) ∧
      (-9223372036854775808 ≤ f ∧ f ≤ 9223372036854775807) ∧ -9223372036854775808 ≤ m ∧ m ≤ 9223372036854775807 := by
  obtain ⟨b, off, rfl, hlt, hc⟩ := h.2 i hi
  have hm := hw _ (getD_mem_pair (xs := xs) (i := i) (by rw [h.1]; exact hi))
  exact ⟨b, off, rfl, hlt, _, _, rfl, (hc i hi).1, (hc i hi).2, hm⟩

def flatX (xs : List (Int × Int)) : List Value := xs.flatMap fun x => [.int .i64 x.1, .int .i64 x.2]

theorem flatX_length (xs : List (Int × Int)) : (flatX xs).length = xs.length * 2 := by
  induction xs with
  | nil => rfl
  | cons p ps ih => simp only [flatX, List.flatMap_cons, List.length_append, List.length_cons, List.length_nil] at *; omega

theorem flatX_append (xs ys : List (Int × Int)) : flatX (xs ++ ys) = flatX xs ++ flatX ys := by simp [flatX]

theorem flatX_get (xs : List (Int × Int)) (j : Nat) (h : j < xs.length) : (flatX xs)[j * 2]? = some (.int .i64 (xs.getD j (0, 0)).1) ∧ (flatX xs)[j * 2 + 1]? = some (.int .i64 (xs.getD j (0, 0)).2) := by
  induction xs generalizing j with
  | nil => simp at h
  | cons p ps ih =>
    cases j with
    | zero => simp [flatX, List.getD_eq_getElem?_getD]
    | succ j =>
      have := ih j (by simpa using h)
      simp only [flatX, List.flatMap_cons] at *
      rw [show (j + 1) * 2 = j * 2 + 1 + 1 by omega, show j * 2 + 1 + 1 + 1 = (j * 2 + 1) + 1 + 1 by omega]
      simpa [List.getD_eq_getElem?_getD] using this

/-- A slice of sums of the call's own: it lies in blocks from B on (or is nil). -/
def OwnX (w : World) (B : Nat) (a : Option Addr) (c : Nat) (xs : List (Int × Int)) : Prop :=
  WfX xs ∧ w.ownsRow B 53 2 (.slice a xs.length c) xs.length (flatX xs)

theorem info_ext : (Try.prog.info? 53).map (fun i => (i.zero, i.size, i.bytes)) = some (some (.agg #[.int .i64 0, .int .i64 0]), 2, 16) := by kernel_rfl

theorem OwnX.rd {w : World} {B : Nat} {a : Option Addr} {c : Nat} {xs : List (Int × Int)} (h : OwnX w B a c xs) : RdX w a xs.length xs := by
  refine ⟨rfl, fun i hi => ?_⟩
  rcases h.2.2 with ⟨h', h0⟩ | ⟨g, cap, cur, h', hb, hg, hnc, hcm, hcs, htake⟩
  · omega
  · injection h' with h1 h2 h3
    subst h1
    refine ⟨g, 0, rfl, (Array.getElem?_eq_some_iff.1 hg).1, fun j hj => ?_⟩
    have hf := flatX_get xs j hj
    rw [← htake, List.getElem?_take, List.getElem?_take, if_pos (by omega), if_pos (by omega)] at hf
    rw [Nat.zero_add, cell_of_row w g _ cur _ (0, 0) hg, cell_of_row w g _ cur _ (0, 0) hg]
    exact ⟨by simpa using hf.1, by simpa using hf.2⟩

theorem OwnX.below {w w' : World} {B : Nat} {a : Option Addr} {c : Nat} {xs : List (Int × Int)} (h : OwnX w B a c xs) (hb : Below w.heap.size w w') : OwnX w' B a c xs :=
  ⟨h.1, h.2.kept (row := none) ⟨hb.os, hb.tape, hb.output, hb.size, fun k hk _ => hb.block k hk⟩ (by cases hv : (Value.slice a xs.length c).ownBlock <;> simp)⟩

theorem OwnX.mono {w : World} {B B' : Nat} {a : Option Addr} {c : Nat} {xs : List (Int × Int)} (h : OwnX w B a c xs) (hB : B' ≤ B) : OwnX w B' a c xs := by
  refine ⟨h.1, h.2.1, ?_⟩
  rcases h.2.2 with h0 | ⟨g, cap, cur, h', hb, hr⟩
  · exact .inl h0
  · exact .inr ⟨g, cap, cur, h', Nat.le_trans hB hb, hr⟩

theorem OwnX.wf {w : World} {B : Nat} {a : Option Addr} {c : Nat} {xs : List (Int × Int)} (h : OwnX w B a c xs) : WfX xs := h.1
theorem OwnX.drewN {w : World} {B : Nat} {a : Option Addr} {c : Nat} {xs : List (Int × Int)} (h : OwnX w B a c xs) (k : Nat) : OwnX (w.drewN k) B a c xs := h
theorem OwnX.drew {w : World} {B : Nat} {a : Option Addr} {c : Nat} {xs : List (Int × Int)} (h : OwnX w B a c xs) : OwnX w.drew B a c xs := h
theorem OwnX.alloc {w : World} {B : Nat} {a : Option Addr} {c : Nat} {xs : List (Int × Int)} (h : OwnX w B a c xs) (o : Obj) : OwnX (w.alloc o) B a c xs := ⟨h.1, h.2.alloc o⟩
theorem OwnX.nil (w : World) (B : Nat) : OwnX w B none 0 [] := ⟨(by intro z hz; cases hz), World.ownsRow_nil w B _ 2⟩

theorem OwnX.empty {w : World} {B : Nat} (hB : B ≤ w.heap.size) : OwnX (w.alloc (.cells #[] 53)) B (some ⟨w.heap.size, 0, none⟩) 0 [] := by
  refine ⟨?_, ?_⟩
  · intro z hz; cases hz
  · exact World.ownsRow_made w #[] 0 hB (Nat.zero_le _) (by simp)

theorem OwnX.cap {w : World} {B : Nat} {a : Option Addr} {c : Nat} {xs : List (Int × Int)} (h : OwnX w B a c xs) : xs.length ≤ c ∧ c ≤ maxLen := by
  rcases h.2.2 with ⟨h1, h0⟩ | ⟨g, cap, cur, hv, hb, hg, hnc, hcm, _⟩
  · injection h1 with _ _ h3
    omega
  · injection hv with _ _ h3
    omega

theorem OwnX.head {w : World} {B : Nat} {a : Option Addr} {c : Nat} {xs : List (Int × Int)} (h : OwnX w B a c xs) (h0 : 0 < xs.length) : ∃ g, a = some ⟨g, 0, none⟩ ∧ B ≤ g ∧ g < w.heap.size := by
  rcases h.2.2 with ⟨_, h'⟩ | ⟨g, cap, cur, hv, hb, hg, _⟩
  · omega
  · injection hv with hv
    exact ⟨g, hv, hb, (Array.getElem?_eq_some_iff.1 hg).1⟩

theorem OwnX.grown {w w' : World} {B : Nat} {a : Option Addr} {c g : Nat} {xs : List (Int × Int)} (h : OwnX w B a c xs) (hg : w.grownBy w' (some g)) (hB : g < B) : OwnX w' B a c xs := by
  refine ⟨h.1, h.2.kept hg ?_⟩
  cases hv : (Value.slice a xs.length c).ownBlock with
  | none => exact .inl rfl
  | some k => exact .inr (fun e => by have := (h.2.lt k hv).1; injection e; omega)

theorem OwnX.apart {w w' : World} {B : Nat} {a : Option Addr} {c : Nat} {xs : List (Int × Int)} (h : OwnX w B a c xs) {row : Option Nat} (hg : w.grownBy w' row)
    (hne : ∀ k, (Value.slice a xs.length c).ownBlock = some k → ∀ r, row = some r → k ≠ r) : OwnX w' B a c xs := by
  refine ⟨h.1, h.2.kept hg ?_⟩
  cases hv : (Value.slice a xs.length c).ownBlock with
  | none => exact .inl rfl
  | some k => exact .inr (fun e => hne k hv k e.symm rfl)

theorem own_rowX {w : World} {B g : Nat} {a : Option Addr} {c : Nat} {xs : List (Int × Int)} (h : OwnX w B a c xs) (hB : g < B) : ∀ r, (Value.slice a xs.length c).ownBlock = some r → g < r ∧ B ≤ r := by
  intro r hr
  have := (h.2.lt r hr).1
  omega

/-- One cell of element j is written. -/
theorem OwnX.set1 {w : World} {B g : Nat} {c : Nat} {xs : List (Int × Int)} (h : OwnX w B (some ⟨g, 0, none⟩) c xs) (j : Nat) (hj : j < xs.length) (y : Int) (h0 : -9223372036854775808 ≤ y) (h1 : y ≤ 9223372036854775807) :
    OwnX (w.setCell ⟨g, j * 2, none⟩ (.int .i64 y)) B (some ⟨g, 0, none⟩) c (xs.set j (y, (xs.getD j (0, 0)).2)) ∧ w.grownBy (w.setCell ⟨g, j * 2, none⟩ (.int .i64 y)) (some g) := by
  have hst := h.2.stored (j * 2) (.int .i64 y)
  refine ⟨⟨fun z hz => ?_, ?_⟩, hst.2⟩
  · rcases List.mem_or_eq_of_mem_set hz with h' | rfl
    · exact h.1 z h'
    · exact ⟨⟨h0, h1⟩, (h.1 _ (getD_mem_pair hj)).2⟩
  · have e : flatX (xs.set j (y, (xs.getD j (0, 0)).2)) = (flatX xs).set (j * 2) (.int .i64 y) := by
      clear hst h
      induction xs generalizing j with
      | nil => simp at hj
      | cons p ps ih =>
        cases j with
        | zero => simp [flatX, List.getD_eq_getElem?_getD]
        | succ j =>
          have := ih j (by simpa using hj)
          rw [show (j + 1) * 2 = j * 2 + 1 + 1 by omega]
          simpa [flatX, List.getD_eq_getElem?_getD] using this
    rw [List.length_set, e]
    exact hst.1

theorem OwnX.set2 {w : World} {B g : Nat} {c : Nat} {xs : List (Int × Int)} (h : OwnX w B (some ⟨g, 0, none⟩) c xs) (j : Nat) (hj : j < xs.length) (y : Int) (h0 : -9223372036854775808 ≤ y) (h1 : y ≤ 9223372036854775807) :
    OwnX (w.setCell ⟨g, j * 2 + 1, none⟩ (.int .i64 y)) B (some ⟨g, 0, none⟩) c (xs.set j ((xs.getD j (0, 0)).1, y)) ∧ w.grownBy (w.setCell ⟨g, j * 2 + 1, none⟩ (.int .i64 y)) (some g) := by
  have hst := h.2.stored (j * 2 + 1) (.int .i64 y)
  refine ⟨⟨fun z hz => ?_, ?_⟩, hst.2⟩
  · rcases List.mem_or_eq_of_mem_set hz with h' | rfl
    · exact h.1 z h'
    · exact ⟨(h.1 _ (getD_mem_pair hj)).1, h0, h1⟩
  · have e : flatX (xs.set j ((xs.getD j (0, 0)).1, y)) = (flatX xs).set (j * 2 + 1) (.int .i64 y) := by
      clear hst h
      induction xs generalizing j with
      | nil => simp at hj
      | cons p ps ih =>
        cases j with
        | zero => simp [flatX, List.getD_eq_getElem?_getD]
        | succ j =>
          have := ih j (by simpa using hj)
          rw [show (j + 1) * 2 + 1 = (j * 2 + 1) + 1 + 1 by omega]
          simpa [flatX, List.getD_eq_getElem?_getD] using this
    rw [List.length_set, e]
    exact hst.1

/-- Both cells of element j are written. -/
theorem OwnX.setBoth {w : World} {B g : Nat} {c : Nat} {xs : List (Int × Int)} (h : OwnX w B (some ⟨g, 0, none⟩) c xs) (j : Nat) (hj : j < xs.length) (f m : Int) (h0 : -9223372036854775808 ≤ f) (h1 : f ≤ 9223372036854775807) (h2 : -9223372036854775808 ≤ m) (h3 : m ≤ 9223372036854775807) :
    OwnX ((w.setCell ⟨g, j * 2, none⟩ (.int .i64 f)).setCell ⟨g, j * 2 + 1, none⟩ (.int .i64 m)) B (some ⟨g, 0, none⟩) c (xs.set j (f, m)) ∧ w.grownBy ((w.setCell ⟨g, j * 2, none⟩ (.int .i64 f)).setCell ⟨g, j * 2 + 1, none⟩ (.int .i64 m)) (some g) := by
  have a := h.set1 j hj f h0 h1
  have b := a.1.set2 j (by rw [List.length_set]; exact hj) m h2 h3
  have e : (xs.set j (f, (xs.getD j (0, 0)).2)).getD j (0, 0) = (f, (xs.getD j (0, 0)).2) := by simp [List.getD_eq_getElem?_getD, hj]
  rw [e, List.set_set] at b
  refine ⟨b.1, ?_, ?_, ?_, ?_, ?_⟩
  · exact b.2.os.trans a.2.os
  · exact b.2.tape.trans a.2.tape
  · exact b.2.output.trans a.2.output
  · exact Nat.le_trans a.2.size b.2.size
  · intro k hk hne
    rw [b.2.block k (Nat.lt_of_lt_of_le hk a.2.size) hne]
    exact a.2.block k hk hne

/-- The cells of element j of an owned slice, and that they may be written. -/
theorem OwnX.cells {w : World} {B g : Nat} {c : Nat} {xs : List (Int × Int)} (h : OwnX w B (some ⟨g, 0, none⟩) c xs) (j : Nat) (hj : j < xs.length) :
    (w.cell? ⟨g, j * 2, none⟩ = some (.int .i64 (xs.getD j (0, 0)).1) ∧ w.cell? ⟨g, j * 2 + 1, none⟩ = some (.int .i64 (xs.getD j (0, 0)).2)) ∧ w.frozen? ⟨g, j * 2, none⟩ = false ∧ w.frozen? ⟨g, j * 2 + 1, none⟩ = false := by
  have hf := flatX_get xs j hj
  refine ⟨⟨?_, ?_⟩, h.2.frozenAt _, h.2.frozenAt _⟩
  · rw [h.2.cellAt (j * 2) (by omega)]; exact hf.1
  · rw [h.2.cellAt (j * 2 + 1) (by omega)]; exact hf.2

/-- A boxed pair is there behind a callee that leaves old memory alone. -/
theorem box_keep {w w2 : World} {x y : Value} {t : TypeId} (hb : Below (w.alloc (.cells #[x, y] t)).heap.size (w.alloc (.cells #[x, y] t)) w2) :
    w2.cell? ⟨w.heap.size, 0, none⟩ = some x ∧ w2.cell? ⟨w.heap.size, 1, none⟩ = some y ∧ Below w.heap.size w w2 ∧ w.heap.size < w2.heap.size := by
  have hs : w.heap.size < (w.alloc (.cells #[x, y] t)).heap.size := by simp
  have hz := hb.size
  refine ⟨?_, ?_, ((Below.refl _ _).alloc (Nat.le_refl _) _).trans (hb.mono (by omega)), by omega⟩
  · rw [hb.cell (p := ⟨w.heap.size, 0, none⟩) hs, cell_of_row _ w.heap.size _ _ _ (0, 0) (heap_alloc_new w _)]; rfl
  · rw [hb.cell (p := ⟨w.heap.size, 1, none⟩) hs, cell_of_row _ w.heap.size _ _ _ (0, 0) (heap_alloc_new w _)]; rfl

end Go.Proofs.Ytajheicheefpeaa

/- The builtin append onto a slice of sums of the call's own. -/
namespace Go.Proofs.Ytajheicheefpeaa
open Go.RowKit
set_option linter.unusedVariables false

theorem own_form {w : World} {base : Nat} {e : TypeId} {size : Nat} {v : Value} {n : Nat} {xs : List Value} (h : w.ownsRow base e size v n xs) : ∃ a c, v = .slice a n c ∧ n ≤ c ∧ c ≤ maxLen := by
  rcases h.2 with ⟨rfl, rfl⟩ | ⟨g, cap, cur, rfl, _, _, hc, hm, _⟩
  · exact ⟨_, _, rfl, Nat.le_refl _, Nat.zero_le _⟩
  · exact ⟨_, _, rfl, hc, hm⟩

theorem flatX_one (xs : List (Int × Int)) : ∀ v ∈ flatX xs, v.oneCell' = true := by
  intro v hv
  simp only [flatX, List.mem_flatMap] at hv
  obtain ⟨x, _, hx⟩ := hv
  simp only [List.mem_cons, List.mem_nil_iff, or_false] at hx
  rcases hx with rfl | rfl <;> rfl

/-- 'append(out, xs...)', out a slice of sums of the call's own, the source at an address. -/
theorem wp_appX {ops : Array Oper} {rest : List Oper} {o : Oper} {act : Act} {Q : Exit → Act → World → Prop} (hgd : o.guard = none) (s x : Operand)
    (ho : o.op = .call { callee := .builtin .append, args := #[s, x], argTypes := #[24, 24] })
    {W : World} {B : Nat} {a0 : Option Addr} {c0 L : Nat} {zs : List (Int × Int)} (hL : zs.length = L) (hs : act.eval s = .slice a0 L c0) (hO : OwnX W B a0 c0 zs)
    (ad : Addr) (m c : Nat) (news : List (Int × Int)) (hx : act.eval x = .slice (some ad) m c) (hm : news.length = m)
    (hnews : ∀ j u, (flatX news)[j]? = some u → W.cell? (ad.add j) = some u) (hwf : WfX news) (hlen : L + m ≤ 1099511627776) (hB : B ≤ W.heap.size)
    (h : ∀ a' c' w', OwnX w' B a' c' (zs ++ news) → W.grownBy w' (Value.slice a0 L c0).ownBlock → wpList Try.prog ops Q rest (act.put o.dst (.slice a' (L + m) c')) w') :
    wpList Try.prog ops Q (o :: rest) act W := by
  subst hL
  obtain ⟨i0, hi, hz0, hz1, hz2⟩ := info_parts info_ext
  refine wpList_append_own W hgd s x 24 ho B 53 i0 (.agg #[.int .i64 0, .int .i64 0]) 2 16 Try.underlying24 hi hz0 hz1 hz2 rfl (by decide) _ zs.length _ hs hO.2 ad m c (flatX news) hx (by rw [flatX_length, hm]) hnews
    (flatX_one _) (by unfold maxLen; omega) (by omega) hB ?_
  intro v' w' hown hg _
  obtain ⟨a', c', rfl, _⟩ := own_form hown
  refine h a' c' w' ⟨fun z hz => ?_, ?_⟩ hg
  · rcases List.mem_append.1 hz with h | h
    · exact hO.1 z h
    · exact hwf z h
  · rw [flatX_append, List.length_append, hm]; exact hown

/-- 'append(out, xs...)' at a step of a region that draws. -/
theorem step_appX {ops : Array Oper} {o : Oper} {act : Act} {K : Act → World → Prop} {Q : Exit → Act → World → Prop} {E : Prop} (hgd : o.guard = none) (s x : Operand)
    (ho : o.op = .call { callee := .builtin .append, args := #[s, x], argTypes := #[24, 24] })
    {W : World} {B : Nat} {a0 : Option Addr} {c0 L : Nat} {zs : List (Int × Int)} (hL : zs.length = L) (hs : act.eval s = .slice a0 L c0) (hO : OwnX W B a0 c0 zs)
    (ad : Addr) (m c : Nat) (news : List (Int × Int)) (hx : act.eval x = .slice (some ad) m c) (hm : news.length = m)
    (hnews : ∀ j u, (flatX news)[j]? = some u → W.cell? (ad.add j) = some u) (hwf : WfX news) (hlen : L + m ≤ 1099511627776) (hB : B ≤ W.heap.size)
    (h : ∀ a' c' w', OwnX w' B a' c' (zs ++ news) → W.grownBy w' (Value.slice a0 L c0).ownBlock → K (act.put o.dst (.slice a' (L + m) c')) w') :
    if Region.wanted o (yielded ops act.tmps) = true then Oper.wp Try.prog o act W K Q else E := by
  have hw : Region.wanted o (yielded ops act.tmps) = true := by simp [Region.wanted, hgd]
  rw [if_pos hw]
  subst hL
  obtain ⟨i0, hi, hz0, hz1, hz2⟩ := info_parts info_ext
  refine wp_append_own W s x 24 ho B 53 i0 (.agg #[.int .i64 0, .int .i64 0]) 2 16 Try.underlying24 hi hz0 hz1 hz2 rfl (by decide) _ zs.length _ hs hO.2 ad m c (flatX news) hx (by rw [flatX_length, hm]) hnews
    (flatX_one _) (by unfold maxLen; omega) (by omega) hB ?_
  intro v' w' hown hg _
  obtain ⟨a', c', rfl, _⟩ := own_form hown
  refine h a' c' w' ⟨fun z hz => ?_, ?_⟩ hg
  · rcases List.mem_append.1 hz with h | h
    · exact hO.1 z h
    · exact hwf z h
  · rw [flatX_append, List.length_append, hm]; exact hown

end Go.Proofs.Ytajheicheefpeaa
