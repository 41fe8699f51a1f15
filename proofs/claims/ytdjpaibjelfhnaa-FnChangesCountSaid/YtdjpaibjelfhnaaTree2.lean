/- Weak contracts of l5Copy, l13Same, l5All. -/
import Derived.Test.YtdjpaibjelfhnaaTree1
import Derived.Test.YtdjpaibjelfhnaaEq
import Derived.Deep.RegionHeld3
namespace Go.Proofs.Ytdjpaibjelfhnaa
open Go.RowKit
set_option linter.unusedVariables false

theorem own_none {w : World} {B : Nat} {c : Nat} {zs : List Int} (h : OwnI w B none c zs) : zs = [] ∧ c = 0 := by
  rcases h.2.2 with ⟨h1, h0⟩ | ⟨g, cap, cur, h1, _⟩
  · injection h1 with _ h2 h3
    exact ⟨List.length_eq_zero_iff.1 h0, h3⟩
  · injection h1 with h1; cases h1

theorem OwnI.cells {w : World} {B : Nat} {ad : Addr} {c : Nat} {zs : List Int} (h : OwnI w B (some ad) c zs) : ∀ j u, (zs.map (Value.int .i64))[j]? = some u → w.cell? (ad.add j) = some u := by
  intro j u hj
  have hjn : j < zs.length := by have := (List.getElem?_eq_some_iff.1 hj).1; simpa using this
  obtain ⟨b, off, h', hlt, hc⟩ := h.rd.2 j hjn
  injection h' with h'
  subst h'
  rw [getElem?_ints zs j hjn] at hj
  injection hj with hj
  subst hj
  rw [Addr.add_lit]
  exact hc j hjn

theorem setT4 (w5 : World) (O R : Nat) (hRO : R ≠ O) (T : TypeId) (u0 u1 u2 p v0 v1 v2 : Value) (h : w5.heap[R]? = some (.cells #[u0, u1, u2] T (0, 0))) :
    ((((w5.setCell ⟨O, 2, none⟩ p).setCell ⟨R, 0, none⟩ v0).setCell ⟨R, 1, none⟩ v1).setCell ⟨R, 2, none⟩ v2).cell? ⟨R, 0, none⟩ = some v0 ∧
    ((((w5.setCell ⟨O, 2, none⟩ p).setCell ⟨R, 0, none⟩ v0).setCell ⟨R, 1, none⟩ v1).setCell ⟨R, 2, none⟩ v2).cell? ⟨R, 1, none⟩ = some v1 ∧
    ((((w5.setCell ⟨O, 2, none⟩ p).setCell ⟨R, 0, none⟩ v0).setCell ⟨R, 1, none⟩ v1).setCell ⟨R, 2, none⟩ v2).cell? ⟨R, 2, none⟩ = some v2 := by
  have e1 := (heap_setCell_other w5 ⟨O, 2, none⟩ R p (by simpa using hRO)).trans h
  have e3 := heap_setCell_same _ R 0 _ _ v0 e1
  have e4 := heap_setCell_same _ R 1 _ _ v1 e3
  have e5 := heap_setCell_same _ R 2 _ _ v2 e4
  refine ⟨?_, ?_, ?_⟩
  · rw [cell_of_row _ R 0 _ _ (0, 0) e5]; rfl
  · rw [cell_of_row _ R 1 _ _ (0, 0) e5]; rfl
  · rw [cell_of_row _ R 2 _ _ (0, 0) e5]; rfl

theorem own_emptyT (w : World) (o0 o1 : Obj) : OwnI (((w.alloc o0).alloc o1).alloc (.cells #[] 3)) (w.heap.size + 2) (some ⟨w.heap.size + 1 + 1, 0, none⟩) 0 [] := by
  have := OwnI.empty (w := (w.alloc o0).alloc o1) (B := w.heap.size + 2) (by simp)
  simpa using this

theorem mid3 (w : World) (o0 o1 o2 : Obj) : (((w.alloc o0).alloc o1).alloc o2).heap[w.heap.size + 1]? = some o1 := by
  have s1 : (w.alloc o0).heap.size = w.heap.size + 1 := by simp
  rw [heap_alloc_old, ← s1, heap_alloc_new]
  simp

theorem below3 (w : World) (o0 o1 o2 : Obj) : Below w.heap.size w (((w.alloc o0).alloc o1).alloc o2) := (((Below.refl _ _).alloc (Nat.le_refl _) _).alloc (by simp) _).alloc (by simp; omega) _

set_option maxHeartbeats 400000 in
theorem l5Copy_any (x : TV) (B : Nat) (w : World) (ho : OwnI w B x.ad x.cp x.zs) (hz : x.zs.length ≤ 1048576) :
    Calls Try.prog 48 #[.agg #[.string x.pa, .bool x.dr, .slice x.ad x.zs.length x.cp]] w (RetT1 w x) := by
  obtain ⟨O0, hO0⟩ : ∃ O0, O0 = Obj.cells #[.string x.pa, .bool x.dr, .slice x.ad x.zs.length x.cp] 62 := ⟨_, rfl⟩
  have hW := Lib.hid ho.wf
  have hE : OwnI (((w.alloc (.cells #[.string x.pa, .bool x.dr, .slice x.ad x.zs.length x.cp] 62)).alloc (.cells #[.string ⟨#[]⟩, .bool false, .slice none 0 0] 62)).alloc (.cells #[] 3)) (w.heap.size + 2) (some ⟨w.heap.size + 1 + 1, 0, none⟩) 0 [] := by
    have := OwnI.empty (w := (w.alloc (.cells #[.string x.pa, .bool x.dr, .slice x.ad x.zs.length x.cp] 62)).alloc (.cells #[.string ⟨#[]⟩, .bool false, .slice none 0 0] 62)) (B := w.heap.size + 2) (by simp)
    simpa using this
  have hbA : Below w.heap.size w (((w.alloc (.cells #[.string x.pa, .bool x.dr, .slice x.ad x.zs.length x.cp] 62)).alloc (.cells #[.string ⟨#[]⟩, .bool false, .slice none 0 0] 62)).alloc (.cells #[] 3)) := (((Below.refl _ _).alloc (Nat.le_refl _) _).alloc (by simp) _).alloc (by simp; omega) _
  have hoA := ho.below hbA
  clear hO0
  obtain ⟨pa, dr, ad, cp, zs⟩ := x
  simp only at hE hbA hoA hW hz ⊢
  have fin : ∀ (w5 : World) (a5 : Option Addr) (c5 : Nat) (W0 : World), W0 = (((w.alloc (.cells #[.string pa, .bool dr, .slice ad zs.length cp] 62)).alloc (.cells #[.string ⟨#[]⟩, .bool false, .slice none 0 0] 62)).alloc (.cells #[] 3)) → W0.grownBy w5 (some (w.heap.size + 1 + 1)) → OwnI w5 (w.heap.size + 2) a5 c5 zs →
      (w5.cell? ⟨w.heap.size, 0, none⟩ = some (.string pa) ∧ w5.cell? ⟨w.heap.size, 1, none⟩ = some (.bool dr) ∧ w5.cell? ⟨w.heap.size, 2, none⟩ = some (.slice ad zs.length cp) ∧ w5.frozen? ⟨w.heap.size, 2, none⟩ = false) ∧
      (w5.cell? ⟨w.heap.size + 1, 0, none⟩ = some (.string ⟨#[]⟩) ∧ w5.cell? ⟨w.heap.size + 1, 1, none⟩ = some (.bool false) ∧ w5.cell? ⟨w.heap.size + 1, 2, none⟩ = some (.slice none 0 0) ∧ w5.frozen? ⟨w.heap.size + 1, 0, none⟩ = false ∧ w5.frozen? ⟨w.heap.size + 1, 1, none⟩ = false ∧ w5.frozen? ⟨w.heap.size + 1, 2, none⟩ = false) ∧
      w5.heap[w.heap.size + 1]? = some (.cells #[.string ⟨#[]⟩, .bool false, .slice none 0 0] 62 (0, 0)) ∧ Below w.heap.size w w5 := by
    intro w5 a5 c5 W0 hW0 hg ho5
    subst hW0
    obtain ⟨h0, h1, hs, hb⟩ := heapT _ _ _ _ _ _ hg (by omega)
    exact ⟨⟨cell_of_row w5 _ 0 _ _ (0, 0) h0, cell_of_row w5 _ 1 _ _ (0, 0) h0, cell_of_row w5 _ 2 _ _ (0, 0) h0, frozen_of_row w5 _ 2 _ _ h0⟩, ⟨cell_of_row w5 _ 0 _ _ (0, 0) h1, cell_of_row w5 _ 1 _ _ (0, 0) h1, cell_of_row w5 _ 2 _ _ (0, 0) h1, frozen_of_row w5 _ 0 _ _ h1, frozen_of_row w5 _ 1 _ _ h1, frozen_of_row w5 _ 2 _ _ h1⟩, h1, hb⟩
  have FIN := Lib.hid fin
  clear fin
  cases ad with
  | none =>
    obtain ⟨rfl, rfl⟩ := own_none ho
    go_enter Try.func48, Try.ntmps48
    go_wp2_with (at_builtin; refine wp_app_nil (zs := []) rfl _ _ rfl rfl hE rfl ?_)
    have hm := mid3 w (.cells #[.string pa, .bool dr, .slice (some ⟨w.heap.size + 1 + 1, 0, none⟩) 0 0] 62) (.cells #[.string pa, .bool dr, .slice (some ⟨w.heap.size + 1 + 1, 0, none⟩) 0 0] 62) (.cells #[] 3)
    have k0 := cell_of_row _ _ 0 _ _ (0, 0) hm
    have k1 := cell_of_row _ _ 1 _ _ (0, 0) hm
    have k2 := cell_of_row _ _ 2 _ _ (0, 0) hm
    refine bodyPost_ret (v := .agg #[.string pa, .bool dr, .slice (some ⟨w.heap.size + 1 + 1, 0, none⟩) 0 0]) ?_ rfl ⟨some ⟨w.heap.size + 1 + 1, 0, none⟩, 0, rfl, (own_emptyT w _ _).mono (by omega), below3 w _ _ _⟩
    simp [results, Try.results48, go_sem, k0, k1, k2]
  | some ad =>
    have HC := Lib.hid hoA.cells
    go_enter Try.func48, Try.ntmps48
    go_wp2_with (at_builtin; refine wp_app rfl _ _ rfl rfl hE ad zs.length cp zs rfl rfl HC.out hW.out (by simp; omega) (by simp) ?_; intro a5 c5 w5 hO5 hG5; rw [List.nil_append]; rw [List.nil_append] at hO5; obtain ⟨⟨b0, b1, b2, fb⟩, ⟨r0, r1, r2, fr0, fr1, fr2⟩, hrow, hb5⟩ := FIN.out w5 a5 c5 _ rfl hG5 hO5)
    obtain ⟨k0, k1, k2⟩ := setT4 w5 w.heap.size (w.heap.size + 1) (by omega) _ _ _ _ (.slice a5 zs.length c5) (.string pa) (.bool dr) (.slice a5 zs.length c5) hrow
    refine bodyPost_ret (v := .agg #[.string pa, .bool dr, .slice a5 zs.length c5]) ?_ rfl ⟨a5, c5, rfl, ?_, ?_⟩
    · simp [results, Try.results48, go_sem, k0, k1, k2]
    · exact ((((hO5.set_belowT (by show w.heap.size < _; omega) _).set_belowT (by show w.heap.size + 1 < _; omega) _).set_belowT (by show w.heap.size + 1 < _; omega) _).set_belowT (by show w.heap.size + 1 < _; omega) _).mono (by omega)
    · exact (((hb5.setCell (by show w.heap.size ≤ w.heap.size; omega) _).setCell (by show w.heap.size ≤ w.heap.size + 1; omega) _).setCell (by show w.heap.size ≤ w.heap.size + 1; omega) _).setCell (by show w.heap.size ≤ w.heap.size + 1; omega) _

end Go.Proofs.Ytdjpaibjelfhnaa
