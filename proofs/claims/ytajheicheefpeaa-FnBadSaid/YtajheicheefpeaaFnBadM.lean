import Derived.Conc.LeavingOf
import Derived.Test.YtajheicheefpeaaRows
import Derived.Test.YtajheicheefpeaaM1
import Derived.Test.YtajheicheefpeaaM12
/- The statement Rows.FnBadSaid. -/
namespace Go.Proofs.Ytajheicheefpeaa.fnBad
open Go.ChangeShapes Go.WideShapes Go.ChangeAt Go.RowKit Go.Conc
set_option linter.unusedVariables false

set_option maxRecDepth 100000 in
set_option maxHeartbeats 1000000 in
theorem lifted (os : Os) (started : os.Started) (H : Type) (enc : TypeId × Value → H) :
    ReturnsInLeavingWide {} Try.checked os 6 .any (Rows.fnBadSpec.pre6 enc Try.prog Try.f6 Rows.fnBadRow.domain false) (Rows.fnBadSpec.post enc Try.prog Try.f6 false true false false) := by
  refine returnsInLeavingWide_of_change_sized (C := Try.checked) own started Try.func6
    (ChangeSpec.witness6 (enc := enc) (C := Try.checked) false ⟨#[], #[.slice none 0 0], []⟩ 8 (by kernel_rfl) (by kernel_rfl) (by kernel_rfl) (by kernel_rfl)) ?_
  intro W base args ds gs before hval0 hW hcnd _ _
  have hval : ∀ (j : Nat) t v, Try.f6.params[j]? = some t → args[j]? = some v → Value.okWide Try.prog W .any base t v := hval0
  have hW' := hW
  obtain ⟨p, q, hA0, hV, rfl, hfz, hnd⟩ := hW
  have hA : DataW.TrodAll enc Try.prog W 0 (fun _ => true) true Try.f6.params.toList args.toList ds p := hA0
  rw [Try.params6] at hA hval
  obtain ⟨v0, vs0, d0, ds0, p0, q0, hargs, rfl, rfl, h0, r0⟩ := trodAll_cons hA
  obtain ⟨rfl, rfl, rfl⟩ := trodAll_nil r0
  obtain rfl : args = #[v0] := by cases args; simp_all
  obtain ⟨rfl, rfl⟩ := trodVars_none hV
  have k0 := h0
  have lt0 : ∀ x ∈ p0, x.block < W.heap.size := by obtain ⟨m, hm⟩ := k0; exact DataW.trod_lt m _ _ _ hm
  obtain ⟨a0, n0, c0, rfl, rd0, wf0, mx0⟩ := openB (hval 0 42 v0 rfl rfl) h0
  clear hA0 hval0
  obtain ⟨N, last, o, w', t', e1, e2, e3, e4⟩ := fnBad_ends rd0 wf0
  refine ⟨N, last, o, w', t', e1, e2, e3, e4.mono fun v hp => ?_⟩
  obtain ⟨rfl, bt⟩ := hp
  have bel : Below W.heap.size W (Go.Proofs.Ytajheicheefpeaa.onT w' W.tape w'.drawn) := bt.below
  have fr : ∀ m, W.keptBut w' m := fun m => bel.frame m
  have tr0 : DataW.Trod enc Try.prog w' 0 (fun b => decide (b < W.heap.size)) true 42 (.slice a0 n0 c0) d0 p0 := DataW.Trod.of_heap (w := Go.Proofs.Ytajheicheefpeaa.onT w' W.tape w'.drawn) (w' := w') rfl (Below.trod laidOut (by kernel_rfl) (of_decide_eq_true (by kernel_rfl)) k0 bel lt0)
  exact ⟨_, _, _, [], _, [], hW', trodAll_mk1 (shut_bool Try.underlying4 _), (trodAll_cons_mk tr0 trodAll_mk0), rfl, fr _, fun h => by cases h⟩

theorem over : Rows.fnBadRow.holds Try.pinned (OpenSpec.ofChange Rows.fnBadSpec) :=
  OpenClaim.holds_of_wide_leaving 6 Try.f6 rfl rfl rfl rfl rfl rfl rfl ⟨rfl, rfl, rfl, rfl, rfl⟩ rfl rfl rfl rfl rfl (by kernel_rfl) Try.func6 (by kernel_rfl)
    (of_decide_eq_true (by kernel_rfl)) (by unfold Func.isWrapper; first | (rw [if_pos (by decide +kernel)]; kernel_rfl) | (rw [if_neg (by decide +kernel)]; exact ⟨rfl, rfl⟩))
    (fun os started H enc _ => lifted os started H enc)

/-- The statement. -/
theorem proved : Rows.FnBadSaid := over
#print axioms proved
end Go.Proofs.Ytajheicheefpeaa.fnBad
