import Derived.Conc.LeavingOf
import Derived.Test.YtajheicheefpeaaRows
import Derived.Test.YtajheicheefpeaaM1
import Derived.Test.YtajheicheefpeaaM11
/- The statement Rows.FnChecksDamageSaid. -/
namespace Go.Proofs.Ytajheicheefpeaa.fnChecksDamage
open Go.ChangeShapes Go.WideShapes Go.ChangeAt Go.RowKit Go.Conc
set_option linter.unusedVariables false

set_option maxRecDepth 100000 in
set_option maxHeartbeats 1000000 in
theorem lifted (os : Os) (started : os.Started) (H : Type) (enc : TypeId × Value → H) :
    ReturnsInLeavingWide {} Try.checked os 5 .any (Rows.fnChecksDamageSpec.pre6 enc Try.prog Try.f5 Rows.fnChecksDamageRow.domain false) (Rows.fnChecksDamageSpec.post enc Try.prog Try.f5 false true false false) := by
  refine returnsInLeavingWide_of_change_sized (C := Try.checked) own started Try.func5
    (ChangeSpec.witness6 (enc := enc) (C := Try.checked) false ⟨#[], #[.slice none 0 0, .slice none 0 0], []⟩ 8 (by kernel_rfl) (by kernel_rfl) (by kernel_rfl) (by kernel_rfl)) ?_
  intro W base args ds gs before hval0 hW hcnd _ _
  have hval : ∀ (j : Nat) t v, Try.f5.params[j]? = some t → args[j]? = some v → Value.okWide Try.prog W .any base t v := hval0
  have hW' := hW
  obtain ⟨p, q, hA0, hV, rfl, hfz, hnd⟩ := hW
  have hA : DataW.TrodAll enc Try.prog W 0 (fun _ => true) true Try.f5.params.toList args.toList ds p := hA0
  rw [Try.params5] at hA hval
  obtain ⟨v0, vs0, d0, ds0, p0, q0, hargs, rfl, rfl, h0, r0⟩ := trodAll_cons hA
  obtain ⟨v1, vs1, d1, ds1, p1, q1, rfl, rfl, rfl, h1, r1⟩ := trodAll_cons r0
  obtain ⟨rfl, rfl, rfl⟩ := trodAll_nil r1
  obtain rfl : args = #[v0, v1] := by cases args; simp_all
  obtain ⟨rfl, rfl⟩ := trodVars_none hV
  have k0 := h0
  have lt0 : ∀ x ∈ p0, x.block < W.heap.size := by obtain ⟨m, hm⟩ := k0; exact DataW.trod_lt m _ _ _ hm
  obtain ⟨a0, n0, c0, rfl, rd0, wf0, mx0⟩ := openB (hval 0 42 v0 rfl rfl) h0
  have k1 := h1
  have lt1 : ∀ x ∈ p1, x.block < W.heap.size := by obtain ⟨m, hm⟩ := k1; exact DataW.trod_lt m _ _ _ hm
  obtain ⟨a1, n1, c1, rfl, rd1, wf1, mx1⟩ := openB (hval 1 42 v1 rfl rfl) h1
  clear hA0 hval0
  obtain ⟨N, last, o, w', t', e1, e2, e3, e4⟩ := fnChecksDamage_ends rd0 wf0 rd1 wf1
  refine ⟨N, last, o, w', t', e1, e2, e3, e4.mono fun v hp => ?_⟩
  obtain ⟨rfl, bt⟩ := hp
  have bel : Below W.heap.size W (Go.Proofs.Ytajheicheefpeaa.onT w' W.tape w'.drawn) := bt.below
  have fr : ∀ m, W.keptBut w' m := fun m => bel.frame m
  have tr1 : DataW.Trod enc Try.prog w' 0 (fun b => decide (b < W.heap.size)) true 42 (.slice a1 n1 c1) d1 p1 := DataW.Trod.of_heap (w := Go.Proofs.Ytajheicheefpeaa.onT w' W.tape w'.drawn) (w' := w') rfl (Below.trod laidOut (by kernel_rfl) (of_decide_eq_true (by kernel_rfl)) k1 bel lt1)
  have tr0 : DataW.Trod enc Try.prog w' 0 (fun b => decide (b < W.heap.size)) true 42 (.slice a0 n0 c0) d0 p0 := DataW.Trod.of_heap (w := Go.Proofs.Ytajheicheefpeaa.onT w' W.tape w'.drawn) (w' := w') rfl (Below.trod laidOut (by kernel_rfl) (of_decide_eq_true (by kernel_rfl)) k0 bel lt0)
  exact ⟨_, _, _, [], _, [], hW', trodAll_mk1 (shut_bool Try.underlying4 _), (trodAll_cons_mk tr0 (trodAll_cons_mk tr1 trodAll_mk0)), rfl, fr _, fun h => by cases h⟩

theorem over : Rows.fnChecksDamageRow.holds Try.pinned (OpenSpec.ofChange Rows.fnChecksDamageSpec) :=
  OpenClaim.holds_of_wide_leaving 5 Try.f5 rfl rfl rfl rfl rfl rfl rfl ⟨rfl, rfl, rfl, rfl, rfl⟩ rfl rfl rfl rfl rfl (by kernel_rfl) Try.func5 (by kernel_rfl)
    (of_decide_eq_true (by kernel_rfl)) (by unfold Func.isWrapper; first | (rw [if_pos (by decide +kernel)]; kernel_rfl) | (rw [if_neg (by decide +kernel)]; exact ⟨rfl, rfl⟩))
    (fun os started H enc _ => lifted os started H enc)

/-- The statement. -/
theorem proved : Rows.FnChecksDamageSaid := over
#print axioms proved
end Go.Proofs.Ytajheicheefpeaa.fnChecksDamage
