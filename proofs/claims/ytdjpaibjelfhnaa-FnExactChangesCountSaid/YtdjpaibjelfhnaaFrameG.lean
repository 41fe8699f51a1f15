/- Opening of a law's arguments: lists of changes. -/
import Derived.Test.YtdjpaibjelfhnaaFrame
import Derived.Test.YtdjpaibjelfhnaaChange
import Derived.Deep.Strs
import Derived.Lib.SmallJoins
namespace Go.Proofs.Ytdjpaibjelfhnaa
open Go.ChangeShapes Go.WideShapes Go.ChangeAt Go.RowKit Go.Deep Go.Joins
set_option linter.unusedVariables false

theorem cells_slI : Try.prog.cellsOf 34 = 1 := by kernel_rfl

theorem cells_bool : Try.prog.cellsOf 4 = 1 := by kernel_rfl

theorem cells_item : Try.prog.cellsOf 58 = 3 := by kernel_rfl

theorem trodI {H : Type} {enc : TypeId × Value → H} {W : World} {fuel : Nat} {v : Value} {y : DataW H × List MemPlace} (h : DataW.trod enc Try.prog W 0 (fun _ => true) true fuel 34 [v] = some y) :
    ∃ a n c zs, v = .slice a n c ∧ RdI W a n zs ∧ WfI zs ∧ n ≤ maxLen := by
  rcases open_ints Try.underlying34 Try.underlying3 cells_int h with ⟨hcs, _⟩ | ⟨x, l, c, zs, hcs, _, hl, hm, hz, _, hcell, hwz⟩
  · injection hcs with hcs
    exact ⟨_, _, _, [], hcs, ⟨rfl, fun i hi => absurd hi (by omega)⟩, (by intro z hz; cases hz), Nat.zero_le _⟩
  · injection hcs with hcs
    simp at hz
    refine ⟨_, _, _, zs.take l, hcs, ⟨by simp; omega, fun i hi => ?_⟩, fun z hz' => ?_, by omega⟩
    · obtain ⟨b, off, spot⟩ := x
      have hc := hcell 0 (by omega)
      have hspot : spot = none := by simpa [Addr.add] using World.cell?_spot hc
      subst hspot
      refine ⟨b, off, rfl, World.block_lt_of_cell? _ _ hc, fun j hj => ?_⟩
      have hc := hcell j (by omega)
      simp only [List.getD_eq_getElem?_getD, List.getElem?_take, hj, if_true]
      simpa [Addr.add_lit] using hc
    · have := hwz z (List.mem_of_mem_take hz')
      exact ⟨by have h := this; simp [Lit.wf] at h; exact h.1, by have h := this; simp [Lit.wf] at h; exact h.2⟩

theorem openG {H : Type} {enc : TypeId × Value → H} {W : World} {base : Nat} {v : Value} {d : DataW H} {p : List MemPlace}
    (hv : Value.okWide Try.prog W .any base 32 v) (h : DataW.Trod enc Try.prog W 0 (fun _ => true) true 32 v d p) :
    ∃ a n c zs, v = .slice a n c ∧ (RdR eltGL W a n zs ∧ InP W zs) ∧ WfP zs ∧ n ≤ maxLen := by
  obtain ⟨a0, len0, cap0, rfl⟩ := okWide_slice Try.underlying32 hv
  obtain ⟨fuel, hf⟩ := h
  rcases open_slice Try.underlying32 hf with ⟨hcs, _⟩ | ⟨x, l, c, m, q, D, Pl, hcs, _, hl, hm, hmm, _, hcell⟩
  · simp [Value.cells] at hcs
    obtain ⟨rfl, rfl, rfl⟩ := hcs
    exact ⟨_, _, _, [], rfl, ⟨⟨rfl, fun i hi => absurd hi (by omega)⟩, (by intro z hz; cases hz)⟩, (by intro z hz; cases hz), Nat.zero_le _⟩
  · simp [Value.cells] at hcs
    obtain ⟨rfl, rfl, rfl⟩ := hcs
    simp at hmm
    have hint : ∀ i, i < len0 → ∃ z : PV, (W.cell? (x.add (i * 4)) = some (.int .i64 z.kd) ∧ W.cell? (x.add (i * 4 + 1)) = some (.string z.pa) ∧ W.cell? (x.add (i * 4 + 2)) = some (.bool z.dr) ∧ W.cell? (x.add (i * 4 + 3)) = some (.slice z.ad z.zs.length z.cp)) ∧
        RdI W z.ad z.zs.length z.zs ∧ WfI z.zs ∧ z.zs.length ≤ maxLen ∧ z.pa.size ≤ maxLen ∧ (-9223372036854775808 ≤ z.kd ∧ z.kd ≤ 9223372036854775807) := by
      intro i hi
      obtain ⟨cs', h1, h2⟩ := hcell i (by omega)
      rw [show Try.prog.cellsOf 60 = 4 by kernel_rfl] at h1
      obtain ⟨_, hlen, hc⟩ := World.cells?_some h1
      obtain ⟨y0, yi, n', _, _, t0, ti⟩ := trod_struct2 Try.underlying60 h2
      match cs', hlen with
      | [v0, v1, v2, v3], _ =>
        have e0 := hc 0 (by omega)
        have e1 := hc 1 (by omega)
        have e2 := hc 2 (by omega)
        have e3 := hc 3 (by omega)
        rw [add_add] at e0 e1 e2 e3
        simp only [cells_int, cells_item, List.drop_zero, List.drop_succ_cons, List.take_succ_cons, List.take_zero] at t0 ti
        obtain ⟨y1, y2, y3, n2, _, _, t1, t2, t3⟩ := trod_struct3 Try.underlying58 ti
        simp only [cells_slI, cells_str, cells_bool, List.drop_zero, List.drop_succ_cons, List.take_succ_cons, List.take_zero] at t1 t2 t3
        obtain ⟨z0, g0, _, w0⟩ := DataW.trod_int Try.underlying3 t0
        obtain ⟨z1, g1, _, w1⟩ := DataW.trod_string Try.underlying9 t1
        obtain ⟨z2, g2, _⟩ := DataW.trod_bool Try.underlying4 t2
        obtain ⟨ad, n, cc, zs, g3, hr, hw, hx⟩ := trodI t3
        injection g0 with g0
        injection g1 with g1
        injection g2 with g2
        subst g0 g1 g2 g3
        have hzl := hr.1
        subst hzl
        exact ⟨⟨z0, z1, z2, ad, cc, zs⟩, ⟨by simpa using e0, by simpa using e1, by simpa using e2, by simpa using e3⟩, hr, hw, hx, w1, by have h := w0; simp [Lit.wf] at h; exact h.1, by have h := w0; simp [Lit.wf] at h; exact h.2⟩
    haveI : Inhabited PV := ⟨pv0⟩
    obtain ⟨f, hf'⟩ := choose_lt hint
    have hget : ∀ i y, ((List.range len0).map f)[i]? = some y → i < len0 ∧ y = f i := by
      intro i y hy
      rw [List.getElem?_map] at hy
      by_cases hi : i < len0
      · rw [List.getElem?_range hi] at hy
        exact ⟨hi, (Option.some.inj hy).symm⟩
      · rw [List.getElem?_eq_none (by simpa using hi)] at hy
        cases hy
    refine ⟨_, _, _, (List.range len0).map f, rfl, ⟨⟨by simp, fun i hi => ?_⟩, fun z hz' => ?_⟩, fun z hz' => ?_, by omega⟩
    · obtain ⟨b, off, spot⟩ := x
      have hc := (hf' 0 (by omega)).1.1
      have hspot : spot = none := by simpa [Addr.add] using World.cell?_spot hc
      subst hspot
      refine ⟨b, off, rfl, World.block_lt_of_cell? _ _ hc, fun j y hy k u hu => ?_⟩
      obtain ⟨hj, rfl⟩ := hget j y hy
      have hc := (hf' j hj).1
      simp only [Addr.add_lit, ← Nat.add_assoc] at hc
      match k, hu with
      | 0, hu => injection hu with hu; rw [← hu]; exact hc.1
      | 1, hu => injection hu with hu; rw [← hu]; exact hc.2.1
      | 2, hu => injection hu with hu; rw [← hu]; exact hc.2.2.1
      | 3, hu => injection hu with hu; rw [← hu]; exact hc.2.2.2
      | k + 4, hu => cases hu
    · simp only [List.mem_map, List.mem_range] at hz'
      obtain ⟨i, hi, rfl⟩ := hz'
      exact (hf' i hi).2.1
    · simp only [List.mem_map, List.mem_range] at hz'
      obtain ⟨i, hi, rfl⟩ := hz'
      exact (hf' i hi).2.2

end Go.Proofs.Ytdjpaibjelfhnaa
