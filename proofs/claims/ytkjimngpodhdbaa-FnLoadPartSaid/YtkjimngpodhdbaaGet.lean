/- Contracts of l3At, of the reference's StoreGet, of slices.Clone. -/
import Derived.Test.YtkjimngpodhdbaaPlainGet
import Derived.Test.YtkjimngpodhdbaaStoreImpl
import Derived.Test.YtkjimngpodhdbaaApp
namespace Go.Proofs.Ytkjimngpodhdbaa
open Go.RowKit
set_option linter.unusedVariables false

/-- Where a block with an id is: its place, or -1. -/
def AtI (xs : List HV) (i r : Int) : Prop :=
  (r = -1 ∧ ∀ (j : Nat) (x : HV), xs[j]? = some x → x.id ≠ i) ∨ ∃ k : Nat, r = k ∧ (∃ x, xs[k]? = some x ∧ x.id = i) ∧ ∀ (j : Nat) (x : HV), j < k → xs[j]? = some x → x.id ≠ i

theorem valsH_inv {xs : List HV} {j : Nat} {v : Int × List Int × Int} (h : (valsH xs)[j]? = some v) : ∃ x, xs[j]? = some x ∧ v = x.val := by
  unfold valsH at h
  rw [List.getElem?_map] at h
  cases hx : xs[j]? with
  | none => rw [hx] at h; cases h
  | some x => rw [hx] at h; injection h with h; exact ⟨x, rfl, h.symm⟩

theorem AtI.atV {xs : List HV} {i r : Int} (h : AtI xs i r) : (r = -1 ∧ atV (valsH xs) i = none) ∨ ∃ k : Nat, r = k ∧ ∃ x, xs[k]? = some x ∧ atV (valsH xs) i = some x.val := by
  rcases h with ⟨rfl, hno⟩ | ⟨k, rfl, ⟨x, hx, hxi⟩, hno⟩
  · refine .inl ⟨rfl, atV_none (fun j u hu => ?_)⟩
    obtain ⟨x, hx, rfl⟩ := valsH_inv hu
    exact hno j x hx
  · refine .inr ⟨k, rfl, x, hx, atV_some (valsH_get hx) hxi (fun j u hj hu => ?_)⟩
    obtain ⟨y, hy, rfl⟩ := valsH_inv hu
    exact hno j y hj hy

set_option maxHeartbeats 400000 in
theorem l3At_any (a : Option Addr) (n c : Nat) (xs : List HV) (i : Int) (w : World) (hr : RdR eltH w a n xs) (hn : n ≤ 4611686018427387904) :
    Calls Try.prog 35 #[.slice a n c, .int .i64 i] w fun e w' => ∃ r : Int, e = .returned (.int .i64 r) ∧ AtI xs i r ∧ ∃ m, w' = w.drewN m := by
  have hl := Lib.hid hr.1
  go_enter Try.func35, Try.ntmps35
  go_wp2
  go_loopw [5] (fun q wr => ∃ k : Nat, k ≤ n ∧ q = .int .i64 k ∧ Hid (∀ (j : Nat) (x : HV), j < k → xs[j]? = some x → x.id ≠ i) ∧ ∃ m, wr = w.drewN m)
    (fun q _ => n - (intOf q).toNat)
  case atStart => exact ⟨0, Nat.zero_le _, rfl, Lib.hid (fun j x h => by omega), 0, rfl⟩
  case round =>
    obtain ⟨k, hk, rfl, hno, m, rfl⟩ := hrel
    by_cases hlt : k < n
    · obtain ⟨b, off, x, rfl, hbl, hx, c0, c1, c2⟩ := atH hr hlt
      have HX := Lib.hid hx
      have hk0 : (0 : Int) ≤ (k : Int) := by omega
      have hk1 : (k : Int) < (n : Int) := by omega
      clear hx
      by_cases hxi : x.id = i
      · have ht : (x.id == i) = true := by simp [hxi]
        have HR : Hid (AtI xs i k) := Lib.hid (.inr ⟨k, rfl, ⟨x, HX.out, hxi⟩, hno.out⟩)
        clear hxi
        go_wp2
        go_ret
        exact ⟨_, rfl, HR.out, _, rfl⟩
      · have ht : (x.id == i) = false := by simp [hxi]
        have HN : Hid (∀ (j : Nat) (y : HV), j < k + 1 → xs[j]? = some y → y.id ≠ i) := Lib.hid (fun j y hj hy => by
          rcases Nat.lt_or_ge j k with h | h
          · exact hno.out j y h hy
          · obtain rfl : j = k := by omega
            rw [HX.out] at hy
            injection hy with hy
            rw [← hy]; exact hxi)
        clear hxi
        go_wp2
        go_roundw
        case rel => exact ⟨k + 1, by omega, by go_num, HN, _, rfl⟩
        case measure => simp [intOf]; omega
    · obtain rfl : k = n := by omega
      have HR : Hid (AtI xs i (-1)) := Lib.hid (.inl ⟨rfl, fun j x hx => hno.out j x (by have := (List.getElem?_eq_some_iff.1 hx).1; have := hl.out; omega) hx⟩)
      go_wp2
      go_ret
      exact ⟨_, rfl, HR.out, _, rfl⟩

/-- A slice of ints of the call's own and a bool are handed back. -/
theorem getR_cases {xs : List HV} {i r : Int} (h : AtI xs i r) (hv : storeV (valsH xs) = true) : (r = -1 ∧ getR (valsH xs) i = ([], false)) ∨ ∃ k : Nat, r = k ∧ ∃ x, xs[k]? = some x ∧ getR (valsH xs) i = (x.zs, true) := by
  rcases h.atV with ⟨rfl, h1⟩ | ⟨k, rfl, x, hx, h1⟩
  · exact .inl ⟨rfl, by unfold getR; rw [hv, h1]; rfl⟩
  · exact .inr ⟨k, rfl, x, hx, by unfold getR; rw [hv, h1]; rfl⟩

theorem getR_bad {xs : List HV} {i : Int} (hv : storeV (valsH xs) = false) : getR (valsH xs) i = ([], false) := by unfold getR; rw [hv]; rfl

end Go.Proofs.Ytkjimngpodhdbaa
