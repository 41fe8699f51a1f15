/- Opening of a law's arguments: lists of blocks. -/
import Derived.Test.YtkjimngpodhdbaaFrame
import Derived.Test.YtkjimngpodhdbaaHeld
import Derived.Deep.Strs
namespace Go.Proofs.Ytkjimngpodhdbaa
set_option maxRecDepth 100000
open Go.ChangeShapes Go.WideShapes Go.ChangeAt Go.RowKit Go.Deep
set_option linter.unusedVariables false

theorem cells_slI : Try.prog.cellsOf 32 = 1 := by kernel_rfl

theorem trodI {H : Type} {enc : TypeId × Value → H} {W : World} {fuel : Nat} {v : Value} {y : DataW H × List MemPlace} (h : DataW.trod enc Try.prog W 0 (fun _ => true) true fuel 32 [v] = some y) :
    ∃ a n c zs, v = .slice a n c ∧ RdI W a n zs ∧ WfI zs ∧ n ≤ maxLen := by
  rcases open_ints Try.underlying32 Try.underlying3 cells_int h with ⟨hcs, _⟩ | ⟨x, l, c, zs, hcs, _, hl, hm, hz, _, hcell, hwz⟩
  · injection hcs with hcs
    exact ⟨_, _, _, [], hcs, ⟨rfl, fun i hi => absurd hi (by omega)⟩, (by intro z hz; cases hz), Nat.zero_le _⟩
  · injection hcs with hcs
    simp at hz
    refine ⟨_, _, _, zs.take l, hcs, ⟨by simp; omega, fun i hi => ?_⟩, fun z hz' => ?_, by omega⟩
    · obtain ⟨b, off, spot⟩ := x
      have hc := hcell 0 (by omega)
      have hspot : spot = none := by simpa [Addr.add] using World.cell?_spot hc
      subst hspot
      refine ⟨b, off, rfl, World.block_lt_of_cell? _ _ hc, fun j hj => ?_⟩
      have hc := hcell j (by omega)
      simp only [List.getD_eq_getElem?_getD, List.getElem?_take, hj, if_true]
      simpa [Addr.add_lit] using hc
    · have := hwz z (List.mem_of_mem_take hz')
      exact ⟨by have h := this; simp [Lit.wf] at h; exact h.1, by have h := this; simp [Lit.wf] at h; exact h.2⟩

theorem openH {H : Type} {enc : TypeId × Value → H} {W : World} {base : Nat} {v : Value} {d : DataW H} {p : List MemPlace}
    (hv : Value.okWide Try.prog W .any base 22 v) (h : DataW.Trod enc Try.prog W 0 (fun _ => true) true 22 v d p) :
    ∃ a n c zs, v = .slice a n c ∧ (RdR eltHL W a n zs ∧ InH W zs) ∧ WfH zs ∧ n ≤ maxLen := by
  obtain ⟨a0, len0, cap0, rfl⟩ := okWide_slice Try.underlying22 hv
  obtain ⟨fuel, hf⟩ := h
  rcases open_slice Try.underlying22 hf with ⟨hcs, _⟩ | ⟨x, l, c, m, q, D, Pl, hcs, _, hl, hm, hmm, _, hcell⟩
  · simp [Value.cells] at hcs
    obtain ⟨rfl, rfl, rfl⟩ := hcs
    exact ⟨_, _, _, [], rfl, ⟨⟨rfl, fun i hi => absurd hi (by omega)⟩, (by intro z hz; cases hz)⟩, (by intro z hz; cases hz), Nat.zero_le _⟩
  · simp [Value.cells] at hcs
    obtain ⟨rfl, rfl, rfl⟩ := hcs
    simp at hmm
    have hint : ∀ i, i < len0 → ∃ z : HV, (W.cell? (x.add (i * 3)) = some (.int .i64 z.id) ∧ W.cell? (x.add (i * 3 + 1)) = some (.slice z.ad z.zs.length z.cp) ∧ W.cell? (x.add (i * 3 + 2)) = some (.int .i64 z.us)) ∧
        RdI W z.ad z.zs.length z.zs ∧ WfI z.zs ∧ z.zs.length ≤ maxLen ∧ (-9223372036854775808 ≤ z.id ∧ z.id ≤ 9223372036854775807) ∧ (-9223372036854775808 ≤ z.us ∧ z.us ≤ 9223372036854775807) := by
      intro i hi
      obtain ⟨cs', h1, h2⟩ := hcell i (by omega)
      rw [show Try.prog.cellsOf 46 = 3 by kernel_rfl] at h1
      obtain ⟨_, hlen, hc⟩ := World.cells?_some h1
      obtain ⟨y0, y1, y2, n', _, _, t0, t1, t2⟩ := trod_struct3 Try.underlying46 h2
      match cs', hlen with
      | [v0, v1, v2], _ =>
        have e0 := hc 0 (by omega)
        have e1 := hc 1 (by omega)
        have e2 := hc 2 (by omega)
        rw [add_add] at e0 e1 e2
        simp only [cells_int, cells_slI, List.drop_zero, List.drop_succ_cons, List.take_succ_cons, List.take_zero] at t0 t1 t2
        obtain ⟨z0, g0, _, w0⟩ := DataW.trod_int Try.underlying3 t0
        obtain ⟨z2, g2, _, w2⟩ := DataW.trod_int Try.underlying3 t2
        obtain ⟨ad, n, cc, zs, g1, hr, hw, hx⟩ := trodI t1
        injection g0 with g0
        injection g2 with g2
        subst g0 g1 g2
        have hzl := hr.1
        subst hzl
        exact ⟨⟨z0, ad, cc, zs, z2⟩, ⟨by simpa using e0, by simpa using e1, by simpa using e2⟩, hr, hw, hx, ⟨by have h := w0; simp [Lit.wf] at h; exact h.1, by have h := w0; simp [Lit.wf] at h; exact h.2⟩, by have h := w2; simp [Lit.wf] at h; exact h.1, by have h := w2; simp [Lit.wf] at h; exact h.2⟩
    haveI : Inhabited HV := ⟨hv0⟩
    obtain ⟨f, hf'⟩ := choose_lt hint
    have hget : ∀ i y, ((List.range len0).map f)[i]? = some y → i < len0 ∧ y = f i := by
      intro i y hy
      rw [List.getElem?_map] at hy
      by_cases hi : i < len0
      · rw [List.getElem?_range hi] at hy
        exact ⟨hi, (Option.some.inj hy).symm⟩
      · rw [List.getElem?_eq_none (by simpa using hi)] at hy
        cases hy
    refine ⟨_, _, _, (List.range len0).map f, rfl, ⟨⟨by simp, fun i hi => ?_⟩, fun z hz' => ?_⟩, fun z hz' => ?_, by omega⟩
    · obtain ⟨b, off, spot⟩ := x
      have hc := (hf' 0 (by omega)).1.1
      have hspot : spot = none := by simpa [Addr.add] using World.cell?_spot hc
      subst hspot
      refine ⟨b, off, rfl, World.block_lt_of_cell? _ _ hc, fun j y hy k u hu => ?_⟩
      obtain ⟨hj, rfl⟩ := hget j y hy
      have hc := (hf' j hj).1
      simp only [Addr.add_lit, ← Nat.add_assoc] at hc
      match k, hu with
      | 0, hu => injection hu with hu; rw [← hu]; exact hc.1
      | 1, hu => injection hu with hu; rw [← hu]; exact hc.2.1
      | 2, hu => injection hu with hu; rw [← hu]; exact hc.2.2
      | k + 3, hu => cases hu
    · simp only [List.mem_map, List.mem_range] at hz'
      obtain ⟨i, hi, rfl⟩ := hz'
      exact (hf' i hi).2.1
    · simp only [List.mem_map, List.mem_range] at hz'
      obtain ⟨i, hi, rfl⟩ := hz'
      exact (hf' i hi).2.2

end Go.Proofs.Ytkjimngpodhdbaa
