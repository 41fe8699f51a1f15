/- Stores of the call's own: what stays, an element more, an element changed. -/
import Derived.Test.YtkjimngpodhdbaaMarkH
import Derived.Test.YtkjimngpodhdbaaApp
import Derived.OwnWalk
namespace Go.Proofs.Ytkjimngpodhdbaa
open Go.RowKit
set_option linter.unusedVariables false

/-- Short lists, small numbers. -/
def SmH (xs : List HV) : Prop := ∀ x ∈ xs, 1 ≤ x.zs.length ∧ x.zs.length ≤ 8 ∧ 0 ≤ x.id ∧ x.id ≤ 100 ∧ 0 ≤ x.us ∧ x.us ≤ 1000

theorem SmH.nil : SmH [] := by intro x hx; cases hx
theorem SmH.snoc {xs : List HV} {x : HV} (h : SmH xs) (hx : 1 ≤ x.zs.length ∧ x.zs.length ≤ 8 ∧ 0 ≤ x.id ∧ x.id ≤ 100 ∧ 0 ≤ x.us ∧ x.us ≤ 1000) : SmH (xs ++ [x]) := by
  intro z hz
  rcases List.mem_append.1 hz with h' | h'
  · exact h z h'
  · rw [List.mem_singleton] at h'; subst h'; exact hx
theorem SmH.set {xs : List HV} {x : HV} (h : SmH xs) (j : Nat) (hx : 1 ≤ x.zs.length ∧ x.zs.length ≤ 8 ∧ 0 ≤ x.id ∧ x.id ≤ 100 ∧ 0 ≤ x.us ∧ x.us ≤ 1000) : SmH (xs.set j x) := by
  intro z hz
  rcases List.mem_or_eq_of_mem_set hz with h' | rfl
  · exact h z h'
  · exact hx

theorem OwnH.empty {w : World} {B : Nat} (hB : B ≤ w.heap.size) : OwnH (w.alloc (.cells #[] 47)) B (some ⟨w.heap.size, 0, none⟩) 0 [] :=
  ⟨OwnR.empty eltH hB, (by intro x hx; cases hx), List.Pairwise.nil⟩

theorem OwnH.alloc {w : World} {B : Nat} {a : Option Addr} {c : Nat} {xs : List HV} (h : OwnH w B a c xs) (o : Obj) : OwnH (w.alloc o) B a c xs :=
  ⟨h.row.alloc o, fun x hx => (h.ins x hx).alloc o, h.apart⟩
theorem OwnH.drewN {w : World} {B : Nat} {a : Option Addr} {c : Nat} {xs : List HV} (h : OwnH w B a c xs) (k : Nat) : OwnH (w.drewN k) B a c xs := ⟨h.row, h.ins, h.apart⟩
theorem OwnH.grown {w w' : World} {B g : Nat} {a : Option Addr} {c : Nat} {xs : List HV} (h : OwnH w B a c xs) (hg : w.grownBy w' (some g)) (hB : g < B) : OwnH w' B a c xs :=
  ⟨h.row.grown hg hB, fun x hx => (h.ins x hx).grown hg hB, h.apart⟩

/-- A row of another kind has been written: a row of ints is kept. -/
theorem OwnI.kindKept {α : Type} {E : Elt α} {w w' : World} {B B' : Nat} {a a' : Option Addr} {c c' : Nat} {zs : List Int} {xs : List α} {L : Nat} (h : OwnI w B a c zs) (hr : OwnR E w B' a' c' xs) (hE : E.ty ≠ 3) (hL : xs.length = L)
    (hg : w.grownBy w' (Value.slice a' L c').ownBlock) : OwnI w' B a c zs := by
  subst hL
  refine h.apartI hg (fun k hk r hr' e => ?_)
  subst e
  obtain ⟨cs, fz, h1⟩ := h.kindI k hk
  obtain ⟨cs', fz', h2⟩ := hr.kindR k hr'
  rw [h1] at h2
  injection h2 with h2
  injection h2 with _ h2
  exact hE h2.symm

theorem eltH_ty : eltH.ty ≠ 3 := by decide

/-- An element more. -/
theorem OwnH.push {w w' : World} {B : Nat} {a a' : Option Addr} {c c' L : Nat} {xs : List HV} {x : HV} {o : Obj} (h : OwnH w B a c xs) (hL : xs.length = L) (hx : OwnI w B x.ad x.cp x.zs) (hap : ∀ y ∈ xs, apartH y x)
    (hg : (w.alloc o).grownBy w' (Value.slice a L c).ownBlock) (hr : OwnR eltH w' B a' c' (xs ++ [x])) : OwnH w' B a' c' (xs ++ [x]) := by
  have h1 := h.alloc o
  refine ⟨hr, fun y hy => ?_, pairwise_snoc h.apart hap⟩
  rcases List.mem_append.1 hy with hy | hy
  · exact (h1.ins y hy).kindKept h1.row eltH_ty hL hg
  · rw [List.mem_singleton] at hy
    subst hy
    exact (hx.alloc o).kindKept h1.row eltH_ty hL hg

theorem pairwise_set {α : Type} {R : α → α → Prop} {xs : List α} {j : Nat} {y : α} (h : xs.Pairwise R) (h1 : ∀ i z, i < j → xs[i]? = some z → R z y) (h2 : ∀ i z, j < i → xs[i]? = some z → R y z) : (xs.set j y).Pairwise R := by
  rw [List.pairwise_iff_getElem] at h ⊢
  intro p q hp hq hpq
  have hp' : p < xs.length := by simpa using hp
  have hq' : q < xs.length := by simpa using hq
  rw [List.getElem_set, List.getElem_set]
  split <;> split
  · omega
  · rename_i e _; subst e
    exact h2 q _ hpq (List.getElem?_eq_getElem hq')
  · rename_i _ e; subst e
    exact h1 p _ hpq (List.getElem?_eq_getElem hp')
  · exact h p q hp' hq' hpq

/-- An element's own list lies in the same place: its numbers have changed. -/
theorem OwnH.setNums {w w' : World} {B g : Nat} {c : Nat} {xs : List HV} {j : Nat} {x y : HV} (h : OwnH w B (some ⟨g, 0, none⟩) c xs) (hx : xs[j]? = some x) (hy : y.ad = x.ad ∧ y.cp = x.cp ∧ y.zs = x.zs)
    (hr : OwnR eltH w' B (some ⟨g, 0, none⟩) c (xs.set j y)) (hg : w.grownBy w' (some g)) : OwnH w' B (some ⟨g, 0, none⟩) c (xs.set j y) := by
  have hin : ∀ z ∈ xs, OwnI w' B z.ad z.cp z.zs := fun z hz => (h.ins z hz).kindKept h.row eltH_ty rfl hg
  obtain ⟨hj, hxe⟩ := List.getElem?_eq_some_iff.1 hx
  refine ⟨hr, fun z hz => ?_, pairwise_set h.apart (fun i z hi hz => ?_) (fun i z hi hz => ?_)⟩
  · rcases List.mem_or_eq_of_mem_set hz with h' | rfl
    · exact hin z h'
    · rw [hy.1, hy.2.1, hy.2.2]; exact hin x (List.mem_of_getElem? hx)
  · obtain ⟨hi', hze⟩ := List.getElem?_eq_some_iff.1 hz
    have := (List.pairwise_iff_getElem.1 h.apart) i j hi' hj hi
    rw [hze, hxe] at this
    intro r s h1 h2
    rw [hy.1, hy.2.1, hy.2.2] at h2
    exact this r s h1 h2
  · obtain ⟨hi', hze⟩ := List.getElem?_eq_some_iff.1 hz
    have := (List.pairwise_iff_getElem.1 h.apart) j i hj hi' hi
    rw [hze, hxe] at this
    intro r s h1 h2
    rw [hy.1, hy.2.1, hy.2.2] at h1
    exact this r s h1 h2

/-- An element has got another list, which lies in new memory. -/
theorem OwnH.setList {w w' : World} {B g : Nat} {c : Nat} {xs : List HV} {j : Nat} {x y : HV} (h : OwnH w B (some ⟨g, 0, none⟩) c xs) (hx : xs[j]? = some x) (hy : OwnI w B y.ad y.cp y.zs)
    (hap : ∀ z ∈ xs, apartH z y ∧ apartH y z) (hr : OwnR eltH w' B (some ⟨g, 0, none⟩) c (xs.set j y)) (hg : w.grownBy w' (some g)) : OwnH w' B (some ⟨g, 0, none⟩) c (xs.set j y) := by
  have hin : ∀ z ∈ xs, OwnI w' B z.ad z.cp z.zs := fun z hz => (h.ins z hz).kindKept h.row eltH_ty rfl hg
  refine ⟨hr, fun z hz => ?_, pairwise_set h.apart (fun i z hi hz => (hap z (List.mem_of_getElem? hz)).1) (fun i z hi hz => (hap z (List.mem_of_getElem? hz)).2)⟩
  rcases List.mem_or_eq_of_mem_set hz with h' | rfl
  · exact hin z h'
  · exact hy.kindKept h.row eltH_ty rfl hg

/-- A list that lies in blocks that are new lies apart from all that were there. -/
theorem OwnH.apartNew {w : World} {B : Nat} {a : Option Addr} {c : Nat} {xs : List HV} (h : OwnH w B a c xs) {w' : World} {B' : Nat} {x : HV} (hB : w.heap.size ≤ B') (hx : OwnI w' B' x.ad x.cp x.zs) : ∀ z ∈ xs, apartH z x ∧ apartH x z := by
  intro z hz
  have h1 := fun r hr => ((h.ins z hz).blk r hr).2
  have h2 := fun s hs => (hx.blk s hs).1
  exact ⟨fun r s hr hs => by have := h1 r hr; have := h2 s hs; omega, fun r s hr hs => by have := h1 s hs; have := h2 r hr; omega⟩

theorem OwnI.cells {w : World} {B : Nat} {ad : Addr} {c : Nat} {zs : List Int} (h : OwnI w B (some ad) c zs) : ∀ j u, (zs.map (Value.int .i64))[j]? = some u → w.cell? (ad.add j) = some u := by
  intro j u hj
  have hjn : j < zs.length := by have := (List.getElem?_eq_some_iff.1 hj).1; simpa using this
  obtain ⟨b, off, h', hlt, hc⟩ := h.rd.2 j hjn
  injection h' with h'
  subst h'
  rw [getElem?_ints zs j hjn] at hj
  injection hj with hj
  subst hj
  rw [Addr.add_lit]
  exact hc j hjn

/-- A literal of ints. -/
theorem OwnI.lit (w : World) (zs : List Int) (hwf : WfI zs) (hn : zs.length ≤ 1048576) : OwnI (w.alloc (.cells (zs.map (Value.int .i64)).toArray 3)) w.heap.size (some ⟨w.heap.size, 0, none⟩) zs.length zs := by
  refine ⟨hwf, ?_⟩
  have := World.ownsRow_lit (e := 3) (size := 1) (base := w.heap.size) w (zs.map (Value.int .i64)).toArray zs.length (Nat.le_refl _) (by unfold maxLen; omega) (by simp)
  simpa using this

end Go.Proofs.Ytkjimngpodhdbaa
