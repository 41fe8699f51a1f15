/- Opening of a law's arguments: what a slice of ints, or of bytes, that came in reads as. -/
import Derived.Test.YthcjelijpeddbaaBase
import Derived.ProofKit
import Derived.OpenShut
import Derived.ShutString
import Derived.ChangeOld
import Derived.Deep.SlicePairs
import Derived.Test.YthcjelijpeddbaaBaseX
namespace Go.Proofs.Ythcjelijpeddbaa
open Go.ChangeShapes Go.WideShapes Go.ChangeAt Go.RowKit Go.Deep
open Go.ChangeMaps (open_string shut_string)

theorem own : ownKnob Try.prog.godebug = none := by kernel_rfl
theorem laidOut : laidOutB Try.prog = true := by kernel_rfl
theorem cells_int : Try.prog.cellsOf 3 = 1 := by kernel_rfl


theorem openE {H : Type} {enc : TypeId × Value → H} {W : World} {base : Nat} {v : Value} {d : DataW H} {p : List MemPlace}
    (hv : Value.okWide Try.prog W .any base 36 v) (h : DataW.Trod enc Try.prog W 0 (fun _ => true) true 36 v d p) :
    ∃ a n c zs, v = .slice a n c ∧ RdX W a n zs ∧ WfX zs ∧ n ≤ maxLen := by
  obtain ⟨a0, len0, cap0, rfl⟩ := okWide_slice Try.underlying36 hv
  obtain ⟨fuel, hf⟩ := h
  rcases open_slice_pairs Try.underlying36 Try.underlying37 (by kernel_rfl) rfl rfl cells_int cells_int hf with ⟨hcs, _⟩ | ⟨x, l, c, m, q, V0, V1, D0, D1, P0, P1, hcs, _, hl, hm, hmm, _, hcell⟩
  · simp [Value.cells] at hcs
    obtain ⟨rfl, rfl, rfl⟩ := hcs
    exact ⟨_, _, _, [], rfl, ⟨rfl, fun i hi => absurd hi (by omega)⟩, (by intro z hz; cases hz), Nat.zero_le _⟩
  · simp [Value.cells] at hcs
    obtain ⟨rfl, rfl, rfl⟩ := hcs
    simp at hmm
    have hint : ∀ i, i < len0 → ∃ z : Int × Int, (W.cell? (x.add (i * 2)) = some (.int .i64 z.1) ∧ W.cell? (x.add (i * 2 + 1)) = some (.int .i64 z.2)) ∧ (-9223372036854775808 ≤ z.1 ∧ z.1 ≤ 9223372036854775807) ∧ -9223372036854775808 ≤ z.2 ∧ z.2 ≤ 9223372036854775807 := by
      intro i hi
      obtain ⟨e0, e1, t0, t1⟩ := hcell i (by omega)
      obtain ⟨z0, h0, _, w0⟩ := DataW.trod_int Try.underlying3 t0
      obtain ⟨z1, h1, _, w1⟩ := DataW.trod_int Try.underlying3 t1
      injection h0 with h0
      injection h1 with h1
      rw [h0] at e0
      rw [h1] at e1
      exact ⟨(z0, z1), ⟨e0, e1⟩, ⟨by have h := w0; simp [Lit.wf] at h; exact h.1, by have h := w0; simp [Lit.wf] at h; exact h.2⟩, by have h := w1; simp [Lit.wf] at h; exact h.1, by have h := w1; simp [Lit.wf] at h; exact h.2⟩
    obtain ⟨f, hf'⟩ := choose_lt hint
    have hget : ∀ i, i < len0 → ((List.range len0).map f).getD i (0, 0) = f i := by intro i hi; simp [List.getD_eq_getElem?_getD, hi]
    refine ⟨_, _, _, (List.range len0).map f, rfl, ⟨by simp, fun i hi => ?_⟩, fun z hz' => ?_, by omega⟩
    · obtain ⟨b, off, spot⟩ := x
      have hc := (hf' 0 (by omega)).1.1
      have hspot : spot = none := by simpa [Addr.add] using World.cell?_spot hc
      subst hspot
      refine ⟨b, off, rfl, World.block_lt_of_cell? _ _ hc, fun j hj => ?_⟩
      have hc := (hf' j (by omega)).1
      rw [hget j hj]
      simpa [Addr.add_lit, Nat.add_assoc] using hc
    · simp only [List.mem_map, List.mem_range] at hz'
      obtain ⟨i, hi, rfl⟩ := hz'
      exact (hf' i hi).2

theorem cells_u8 : Try.prog.cellsOf 5 = 1 := by kernel_rfl
theorem openB {H : Type} {enc : TypeId × Value → H} {W : World} {base : Nat} {v : Value} {d : DataW H} {p : List MemPlace}
    (hv : Value.okWide Try.prog W .any base 22 v) (h : DataW.Trod enc Try.prog W 0 (fun _ => true) true 22 v d p) :
    ∃ a n c, v = .slice a n c ∧ RdC W a n ∧ n ≤ c ∧ c ≤ maxLen := by
  obtain ⟨a0, len0, cap0, rfl⟩ := okWide_slice Try.underlying22 hv
  obtain ⟨fuel, hf⟩ := h
  rcases open_ints Try.underlying22 Try.underlying5 cells_u8 hf with ⟨hcs, _⟩ | ⟨x, l, c, zs, hcs, _, hl, hm, hz, _, hcell, hwz⟩
  · simp [Value.cells] at hcs
    obtain ⟨rfl, rfl, rfl⟩ := hcs
    exact ⟨_, _, _, rfl, fun i hi => absurd hi (by omega), Nat.le_refl _, Nat.zero_le _⟩
  · simp [Value.cells] at hcs
    obtain ⟨rfl, rfl, rfl⟩ := hcs
    simp at hz
    refine ⟨_, _, _, rfl, fun i hi => ?_, hl, hm⟩
    obtain ⟨b, off, spot⟩ := x
    have hc := hcell 0 (by omega)
    have hspot : spot = none := by simpa [Addr.add] using World.cell?_spot hc
    subst hspot
    refine ⟨b, off, rfl, World.block_lt_of_cell? _ _ hc, fun j hj => ⟨zs.getD j 0, ?_⟩⟩
    have hc := hcell j (by omega)
    have hw := hwz (zs.getD j 0) (by rw [List.getD_eq_getElem?_getD, List.getElem?_eq_getElem (by omega)]; exact List.getElem_mem _)
    simp [Lit.wf] at hw
    simp only [Addr.add_lit] at hc
    exact ⟨by have := hw.1; simpa [IntKind.min, IntKind.signed] using this, by have := hw.2; simpa [IntKind.max, IntKind.signed, IntKind.bits] using this, hc⟩

end Go.Proofs.Ythcjelijpeddbaa
