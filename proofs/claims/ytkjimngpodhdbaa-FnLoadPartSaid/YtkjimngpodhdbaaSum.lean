/- Contracts: spec.l2Sum, spec.BlockSum, impl.BlockSum. -/
import Derived.Test.YtkjimngpodhdbaaValid
namespace Go.Proofs.Ytkjimngpodhdbaa
open Go.RowKit

def sumL (zs : List Int) : Int := zs.foldl (fun s b => (263 * s + b) % 9973) 7
def blockSum (zs : List Int) : Int := if blockV zs = true then sumL zs else -1

theorem sumL_bd (zs : List Int) : 0 ≤ sumL zs ∧ sumL zs < 9973 := by
  rcases List.eq_nil_or_concat zs with rfl | ⟨l, x, rfl⟩
  · simp [sumL]
  · simp only [List.concat_eq_append, sumL, List.foldl_append, List.foldl_cons, List.foldl_nil]; omega

theorem sumL_succ {zs : List Int} {k : Nat} (h : k < zs.length) : sumL (zs.take (k + 1)) = (263 * sumL (zs.take k) + zs.getD k 0) % 9973 := by
  rw [List.take_succ_eq_append_getElem h]
  have e : zs.getD k 0 = zs[k] := by simp [List.getD, h]
  simp only [sumL, List.foldl_append, List.foldl_cons, List.foldl_nil, e]

theorem blockV_parts {zs : List Int} (h : blockV zs = true) : allB zs = true ∧ 1 ≤ zs.length ∧ zs.length ≤ 8 := by
  simp only [blockV, inB, Bool.and_eq_true, decide_eq_true_eq] at h
  exact ⟨h.1, by omega, by omega⟩

theorem allB_at {zs : List Int} (h : allB zs = true) {k : Nat} (hk : k < zs.length) : 0 ≤ zs.getD k 0 ∧ zs.getD k 0 ≤ 255 := by
  have e : zs.getD k 0 = zs[k] := by simp [List.getD, hk]
  simp only [allB, List.all_eq_true] at h
  rw [e]; exact inB_byte.1 (h _ (List.getElem_mem hk))

end Go.Proofs.Ytkjimngpodhdbaa
