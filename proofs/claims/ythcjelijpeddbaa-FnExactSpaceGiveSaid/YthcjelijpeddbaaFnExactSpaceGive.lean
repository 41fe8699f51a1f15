/- The statement Rows.FnExactSpaceGiveSaid: for every input FnExactSpaceGive answers true and every argument reads afterwards as it read before. No condition. -/
import Derived.Test.YthcjelijpeddbaaRows
import Derived.Test.YthcjelijpeddbaaFrame
import Derived.Lib.SmallJoins
import Derived.Test.YthcjelijpeddbaaExGive
namespace Go.Proofs.Ythcjelijpeddbaa.fnExactSpaceGive
open Go.ChangeShapes Go.WideShapes Go.ChangeAt Go.RowKit
open Go.ChangeMaps (open_string shut_string)
set_option linter.unusedVariables false

set_option maxRecDepth 100000 in
theorem lifted (os : Os) (started : os.Started) (H : Type) (enc : TypeId × Value → H) :
    ReturnsInHanded {} Try.checked os 5 .any (Rows.fnExactSpaceGiveSpec.pre6 enc Try.prog Try.f5 Rows.fnExactSpaceGiveRow.domain false) (Rows.fnExactSpaceGiveSpec.post enc Try.prog Try.f5 false true false false) := by
  refine returnsInHanded_of_change (C := Try.checked) own started (by kernel_rfl) Try.func5
    (ChangeSpec.witness6 (enc := enc) (C := Try.checked) false ⟨#[], #[.slice none 0 0, .agg #[.int .i64 0, .int .i64 0]], []⟩ 8 (by kernel_rfl) (by kernel_rfl) (by kernel_rfl) (by kernel_rfl)) ?_
  intro W base args ds gs before hval0 hW hcnd _
  have hval : ∀ (j : Nat) t v, Try.f5.params[j]? = some t → args[j]? = some v → Value.okWide Try.prog W .any base t v := hval0
  have hW' := hW
  obtain ⟨p, q, hA0, hV, rfl, hfz, hnd⟩ := hW
  have hA : DataW.TrodAll enc Try.prog W 0 (fun _ => true) true Try.f5.params.toList args.toList ds p := hA0
  rw [Try.params5] at hA hval
  obtain ⟨v0, vs0, d0, ds0, p0, q0, hargs, rfl, rfl, h0, r0⟩ := trodAll_cons hA
  obtain ⟨v1, vs1, d1, ds1, p1, q1, rfl, rfl, rfl, h1, r1⟩ := trodAll_cons r0
  obtain ⟨rfl, rfl, rfl⟩ := trodAll_nil r1
  obtain rfl : args = #[v0, v1] := by cases args; simp_all
  obtain ⟨rfl, rfl⟩ := trodVars_none hV
  have k0 := h0
  have lt0 : ∀ x ∈ p0, x.block < W.heap.size := by obtain ⟨m, hm⟩ := k0; exact DataW.trod_lt m _ _ _ hm
  obtain ⟨a0, n0, c0, z0, rfl, rd0, wf0, mx0⟩ := openE (hval 0 36 v0 rfl rfl) h0
  have k1 := h1
  have lt1 : ∀ x ∈ p1, x.block < W.heap.size := by obtain ⟨m, hm⟩ := k1; exact DataW.trod_lt m _ _ _ hm
  obtain ⟨cX0, cX1, yX0, yX1, mX, rfl, rfl, rfl, hX0, hX1⟩ := Joins.open_agg2 Try.underlying37 (by kernel_rfl) (by kernel_rfl) (hval 1 37 v1 rfl rfl) h1
  obtain ⟨f1, e0, rfl, wX0⟩ := DataW.trod_int Try.underlying3 hX0
  obtain ⟨m1, e1, rfl, wX1⟩ := DataW.trod_int Try.underlying3 hX1
  simp at e0 e1
  subst e0 e1
  have bf1 : -9223372036854775808 ≤ f1 ∧ f1 ≤ 9223372036854775807 := ⟨by have h := wX0; simp [Lit.wf] at h; exact h.1, by have h := wX0; simp [Lit.wf] at h; exact h.2⟩
  have bm1 : -9223372036854775808 ≤ m1 ∧ m1 ≤ 9223372036854775807 := ⟨by have h := wX1; simp [Lit.wf] at h; exact h.1, by have h := wX1; simp [Lit.wf] at h; exact h.2⟩
  clear hA0 hval0
  refine (FnExactSpaceGive_walk a0 n0 c0 z0 f1 m1 W rd0 wf0 mx0 bf1 bm1).mono fun e W' ⟨he, bel⟩ => ?_
  subst he
  exact ⟨_, rfl, _, _, _, [], _, [], hW', trodAll_mk1 (shut_bool Try.underlying4 _), (trodAll_cons_mk (Below.trod laidOut (by kernel_rfl) (of_decide_eq_true (by kernel_rfl)) k0 bel lt0) (trodAll_cons_mk (Below.trod laidOut (by kernel_rfl) (of_decide_eq_true (by kernel_rfl)) k1 bel lt1) trodAll_mk0)), rfl, bel.frame _, fun h => by cases h⟩

theorem over : Rows.fnExactSpaceGiveRow.holds Try.pinned (OpenSpec.ofChange Rows.fnExactSpaceGiveSpec) :=
  OpenClaim.holds_of_wide 5 Try.f5 rfl rfl rfl rfl rfl rfl rfl ⟨rfl, rfl, rfl, rfl, rfl⟩ rfl rfl rfl rfl rfl (by kernel_rfl) Try.func5 (by kernel_rfl)
    (of_decide_eq_true (by kernel_rfl)) (by unfold Func.isWrapper; first | (rw [if_pos (by decide +kernel)]; kernel_rfl) | (rw [if_neg (by decide +kernel)]; exact ⟨rfl, rfl⟩))
    (fun os started H enc _ => lifted os started H enc)

/-- The statement. -/
theorem proved : Rows.FnExactSpaceGiveSaid := over
#print axioms proved
end Go.Proofs.Ythcjelijpeddbaa.fnExactSpaceGive
