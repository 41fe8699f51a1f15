/- Opening of a law's arguments: what a slice of ints, or of bytes, that came in reads as. -/
import Derived.Test.YtcojgoibelgleaaBase
import Derived.ProofKit
import Derived.OpenShut
import Derived.ShutString
import Derived.ChangeOld
import Derived.Deep.SlicePairs
import Derived.Test.YtcojgoibelgleaaHold
namespace Go.Proofs.Ytcojgoibelgleaa
set_option maxRecDepth 100000
open Go.ChangeShapes Go.WideShapes Go.ChangeAt Go.RowKit Go.Deep
open Go.ChangeMaps (open_string shut_string)

theorem own : ownKnob Try.prog.godebug = none := by kernel_rfl
theorem laidOut : laidOutB Try.prog = true := by kernel_rfl
theorem cells_int : Try.prog.cellsOf 3 = 1 := by kernel_rfl

theorem openI {H : Type} {enc : TypeId × Value → H} {W : World} {base : Nat} {v : Value} {d : DataW H} {p : List MemPlace}
    (hv : Value.okWide Try.prog W .any base 55 v) (h : DataW.Trod enc Try.prog W 0 (fun _ => true) true 55 v d p) :
    ∃ a n c zs, v = .slice a n c ∧ RdI W a n zs ∧ WfI zs ∧ n ≤ maxLen := by
  obtain ⟨a0, len0, cap0, rfl⟩ := okWide_slice Try.underlying55 hv
  obtain ⟨fuel, hf⟩ := h
  rcases open_ints Try.underlying55 Try.underlying3 cells_int hf with ⟨hcs, _⟩ | ⟨x, l, c, zs, hcs, _, hl, hm, hz, _, hcell, hwz⟩
  · simp [Value.cells] at hcs
    obtain ⟨rfl, rfl, rfl⟩ := hcs
    exact ⟨_, _, _, [], rfl, ⟨rfl, fun i hi => absurd hi (by omega)⟩, (by intro z hz; cases hz), Nat.zero_le _⟩
  · simp [Value.cells] at hcs
    obtain ⟨rfl, rfl, rfl⟩ := hcs
    simp at hz
    refine ⟨_, _, _, zs.take len0, rfl, ⟨by simp; omega, fun i hi => ?_⟩, fun z hz' => ?_, by omega⟩
    · obtain ⟨b, off, spot⟩ := x
      have hc := hcell 0 (by omega)
      have hspot : spot = none := by simpa [Addr.add] using World.cell?_spot hc
      subst hspot
      refine ⟨b, off, rfl, World.block_lt_of_cell? _ _ hc, fun j hj => ?_⟩
      have hc := hcell j (by omega)
      simp only [List.getD_eq_getElem?_getD, List.getElem?_take, hj, if_true]
      simpa [Addr.add_lit] using hc
    · have := hwz z (List.mem_of_mem_take hz')
      exact ⟨by have h := this; simp [Lit.wf] at h; exact h.1, by have h := this; simp [Lit.wf] at h; exact h.2⟩


theorem cells_str : Try.prog.cellsOf 9 = 1 := by kernel_rfl

theorem openO {H : Type} {enc : TypeId × Value → H} {W : World} {base : Nat} {v : Value} {d : DataW H} {p : List MemPlace}
    (hv : Value.okWide Try.prog W .any base 22 v) (h : DataW.Trod enc Try.prog W 0 (fun _ => true) true 22 v d p) :
    ∃ a n c zs, v = .slice a n c ∧ RdR eltOL W a n zs ∧ WfO zs ∧ n ≤ maxLen := by
  obtain ⟨a0, len0, cap0, rfl⟩ := okWide_slice Try.underlying22 hv
  obtain ⟨fuel, hf⟩ := h
  rcases open_slice_pairs Try.underlying22 Try.underlying34 (by kernel_rfl) rfl rfl cells_str cells_str hf with ⟨hcs, _⟩ | ⟨x, l, c, m, q, V0, V1, D0, D1, P0, P1, hcs, _, hl, hm, hmm, _, hcell⟩
  · simp [Value.cells] at hcs
    obtain ⟨rfl, rfl, rfl⟩ := hcs
    exact ⟨_, _, _, [], rfl, ⟨rfl, fun i hi => absurd hi (by omega)⟩, (by intro z hz; cases hz), Nat.zero_le _⟩
  · simp [Value.cells] at hcs
    obtain ⟨rfl, rfl, rfl⟩ := hcs
    simp at hmm
    have hint : ∀ i, i < len0 → ∃ z : ByteArray × ByteArray, (W.cell? (x.add (i * 2)) = some (.string z.1) ∧ W.cell? (x.add (i * 2 + 1)) = some (.string z.2)) ∧ z.1.size ≤ maxLen ∧ z.2.size ≤ maxLen := by
      intro i hi
      obtain ⟨e0, e1, t0, t1⟩ := hcell i (by omega)
      obtain ⟨z0, h0, _, w0⟩ := DataW.trod_string Try.underlying9 t0
      obtain ⟨z1, h1, _, w1⟩ := DataW.trod_string Try.underlying9 t1
      injection h0 with h0
      injection h1 with h1
      rw [h0] at e0
      rw [h1] at e1
      exact ⟨(z0, z1), ⟨e0, e1⟩, w0, w1⟩
    obtain ⟨f, hf'⟩ := choose_lt hint
    have hget : ∀ i y, ((List.range len0).map f)[i]? = some y → i < len0 ∧ y = f i := by
      intro i y hy
      rw [List.getElem?_map] at hy
      by_cases hi : i < len0
      · rw [List.getElem?_range hi] at hy
        exact ⟨hi, (Option.some.inj hy).symm⟩
      · rw [List.getElem?_eq_none (by simpa using hi)] at hy
        cases hy
    refine ⟨_, _, _, (List.range len0).map f, rfl, ⟨by simp, fun i hi => ?_⟩, fun z hz' => ?_, by omega⟩
    · obtain ⟨b, off, spot⟩ := x
      have hc := (hf' 0 (by omega)).1.1
      have hspot : spot = none := by simpa [Addr.add] using World.cell?_spot hc
      subst hspot
      refine ⟨b, off, rfl, World.block_lt_of_cell? _ _ hc, fun j y hy k u hu => ?_⟩
      obtain ⟨hj, rfl⟩ := hget j y hy
      have hc := (hf' j hj).1
      simp only [Addr.add_lit, ← Nat.add_assoc] at hc
      match k, hu with
      | 0, hu => injection hu with hu; rw [← hu]; exact hc.1
      | 1, hu => injection hu with hu; rw [← hu]; exact hc.2
      | k + 2, hu => cases hu
    · simp only [List.mem_map, List.mem_range] at hz'
      obtain ⟨i, hi, rfl⟩ := hz'
      exact (hf' i hi).2



theorem cells_u8 : Try.prog.cellsOf 5 = 1 := by kernel_rfl
theorem openB {H : Type} {enc : TypeId × Value → H} {W : World} {base : Nat} {v : Value} {d : DataW H} {p : List MemPlace}
    (hv : Value.okWide Try.prog W .any base 29 v) (h : DataW.Trod enc Try.prog W 0 (fun _ => true) true 29 v d p) :
    ∃ a n c, v = .slice a n c ∧ RdC W a n ∧ n ≤ c ∧ c ≤ maxLen := by
  obtain ⟨a0, len0, cap0, rfl⟩ := okWide_slice Try.underlying29 hv
  obtain ⟨fuel, hf⟩ := h
  rcases open_ints Try.underlying29 Try.underlying5 cells_u8 hf with ⟨hcs, _⟩ | ⟨x, l, c, zs, hcs, _, hl, hm, hz, _, hcell, hwz⟩
  · simp [Value.cells] at hcs
    obtain ⟨rfl, rfl, rfl⟩ := hcs
    exact ⟨_, _, _, rfl, fun i hi => absurd hi (by omega), Nat.le_refl _, Nat.zero_le _⟩
  · simp [Value.cells] at hcs
    obtain ⟨rfl, rfl, rfl⟩ := hcs
    simp at hz
    refine ⟨_, _, _, rfl, fun i hi => ?_, hl, hm⟩
    obtain ⟨b, off, spot⟩ := x
    have hc := hcell 0 (by omega)
    have hspot : spot = none := by simpa [Addr.add] using World.cell?_spot hc
    subst hspot
    refine ⟨b, off, rfl, World.block_lt_of_cell? _ _ hc, fun j hj => ⟨zs.getD j 0, ?_⟩⟩
    have hc := hcell j (by omega)
    have hw := hwz (zs.getD j 0) (by rw [List.getD_eq_getElem?_getD, List.getElem?_eq_getElem (by omega)]; exact List.getElem_mem _)
    simp [Lit.wf] at hw
    simp only [Addr.add_lit] at hc
    exact ⟨by have := hw.1; simpa [IntKind.min, IntKind.signed] using this, by have := hw.2; simpa [IntKind.max, IntKind.signed, IntKind.bits] using this, hc⟩

end Go.Proofs.Ytcojgoibelgleaa
