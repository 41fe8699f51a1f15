/- Contracts: spec.l2Sum, spec.BlockSum, impl.BlockSum. -/
import Derived.Test.YtajheicheefpeaaValid
namespace Go.Proofs.Ytajheicheefpeaa
open Go.RowKit

def sumL (zs : List Int) : Int := zs.foldl (fun s b => (263 * s + b) % 9973) 7
def blockSum (zs : List Int) : Int := if blockV zs = true then sumL zs else -1

theorem sumL_bd (zs : List Int) : 0 ≤ sumL zs ∧ sumL zs < 9973 := by
  rcases List.eq_nil_or_concat zs with rfl | ⟨l, x, rfl⟩
  · simp [sumL]
  · simp only [List.concat_eq_append, sumL, List.foldl_append, List.foldl_cons, List.foldl_nil]; omega

theorem sumL_succ {zs : List Int} {k : Nat} (h : k < zs.length) : sumL (zs.take (k + 1)) = (263 * sumL (zs.take k) + zs.getD k 0) % 9973 := by
  rw [List.take_succ_eq_append_getElem h]
  have e : zs.getD k 0 = zs[k] := by simp [List.getD, h]
  simp only [sumL, List.foldl_append, List.foldl_cons, List.foldl_nil, e]

theorem blockV_parts {zs : List Int} (h : blockV zs = true) : allB zs = true ∧ 1 ≤ zs.length ∧ zs.length ≤ 8 := by
  simp only [blockV, inB, Bool.and_eq_true, decide_eq_true_eq] at h
  exact ⟨h.1, by omega, by omega⟩

theorem allB_at {zs : List Int} (h : allB zs = true) {k : Nat} (hk : k < zs.length) : 0 ≤ zs.getD k 0 ∧ zs.getD k 0 ≤ 255 := by
  have e : zs.getD k 0 = zs[k] := by simp [List.getD, hk]
  simp only [allB, List.all_eq_true] at h
  rw [e]; exact inB_byte.1 (h _ (List.getElem_mem hk))

set_option maxHeartbeats 400000 in
theorem l2Sum_any (a : Option Addr) (n c : Nat) (zs : List Int) (w : World) (hr : RdI w a n zs) (hv : allB zs = true) (hn : n ≤ 4611686018427387904) :
    Calls Try.prog 33 #[.slice a n c] w fun e w' => e = .returned (.int .i64 (sumL zs)) ∧ w = w' := by
  have hl := Lib.hid hr.1
  have HV := Lib.hid hv
  clear hv
  go_enter Try.func33, Try.ntmps33
  go_wp2
  go_loop [3, 4] (fun s i => ∃ k : Nat, k ≤ n ∧ i = .int .i64 k ∧ ∃ t : Int, 0 ≤ t ∧ t < 9973 ∧ s = .int .i64 t ∧ Hid (t = sumL (zs.take k))) (fun _ i => n - (intOf i).toNat)
  case atStart => exact ⟨0, Nat.zero_le _, rfl, 7, by omega, by omega, rfl, Lib.hid (by simp [sumL])⟩
  case round =>
    obtain ⟨k, hk, rfl, t, ht0, ht1, rfl, ht⟩ := hrel
    by_cases hlt : k < n
    · obtain ⟨b, off, rfl, x, hx, hcell⟩ := hr.at_ hlt
      have hs := sumL_succ (zs := zs) (k := k) (by have := hl.out; omega)
      have hbd := allB_at HV.out (k := k) (by have := hl.out; omega)
      rw [← hx] at hs hbd
      rw [← ht.out] at hs
      obtain ⟨hx0, hx1⟩ := hbd
      clear hx
      have HS := Lib.hid hs
      clear hs
      go_wp2
      go_round
      case rel => exact ⟨k + 1, by omega, by go_num, _, by omega, by omega, rfl, Lib.hid (by rw [HS.out])⟩
      case measure => simp [intOf]; omega
    · obtain rfl : k = n := by omega
      go_wp2
      go_ret
      rw [ht.out, List.take_of_length_le (by have := hl.out; omega)]
      exact ⟨rfl, rfl⟩

set_option maxHeartbeats 400000 in
theorem implBlockSum_any (a : Option Addr) (n c : Nat) (zs : List Int) (w : World) (hr : RdI w a n zs) (hn : n ≤ 4611686018427387904) :
    Calls Try.prog 30 #[.slice a n c] w fun e w' => e = .returned (.int .i64 (blockSum zs)) ∧ w = w' := by
  have hl := Lib.hid hr.1
  by_cases hv : blockV zs = true
  · have hf : Hid (blockSum zs = sumL zs) := Lib.hid (by simp [blockSum, hv])
    have HV := Lib.hid (blockV_parts hv).1
    go_enter Try.func30, Try.ntmps30
    go_wp2_with (go_at_call 45; refine (implBlockValid_any a n c zs _ hr hn).mono ?_; rintro e w' ⟨rfl, rfl⟩)
    clear hv
    go_loop [3, 11] (fun s i => ∃ k : Nat, k ≤ n ∧ i = .int .i64 k ∧ ∃ t : Int, 0 ≤ t ∧ t < 9973 ∧ s = .int .i64 t ∧ Hid (t = sumL (zs.take k))) (fun _ i => n - (intOf i).toNat)
    case atStart => exact ⟨0, Nat.zero_le _, rfl, 7, by omega, by omega, rfl, Lib.hid (by simp [sumL])⟩
    case round =>
      obtain ⟨k, hk, rfl, t, ht0, ht1, rfl, ht⟩ := hrel
      by_cases hlt : k < n
      · obtain ⟨b, off, rfl, x, hx, hcell⟩ := hr.at_ hlt
        have hs := sumL_succ (zs := zs) (k := k) (by have := hl.out; omega)
        have hbd := allB_at HV.out (k := k) (by have := hl.out; omega)
        rw [← hx] at hs hbd
        rw [← ht.out] at hs
        obtain ⟨hx0, hx1⟩ := hbd
        clear hx
        have HS := Lib.hid hs
        clear hs
        go_wp2
        go_round
        case rel => exact ⟨k + 1, by omega, by go_num, _, by omega, by omega, rfl, Lib.hid (by rw [HS.out])⟩
        case measure => simp [intOf]; omega
      · obtain rfl : k = n := by omega
        go_wp2
        go_ret
        rw [hf.out, ht.out, List.take_of_length_le (by have := hl.out; omega)]
        exact ⟨rfl, rfl⟩
  · have hv' : blockV zs = false := by simpa using hv
    have hf : Hid (blockSum zs = -1) := Lib.hid (by simp [blockSum, hv'])
    clear hv
    go_enter Try.func30, Try.ntmps30
    go_wp2_with (go_at_call 45; refine (implBlockValid_any a n c zs _ hr hn).mono ?_; rintro e w' ⟨rfl, rfl⟩)
    go_ret
    rw [hf.out]
    exact ⟨rfl, rfl⟩

end Go.Proofs.Ytajheicheefpeaa
