/- Contracts: spec.BlockValid, spec.FileValid, impl.bytesValid, impl.BlockValid, impl.FileValid: all answer plain tests on the list. -/
import Derived.Test.YtkjimngpodhdbaaCommon
import Derived.Test.YtkjimngpodhdbaaEq
namespace Go.Proofs.Ytkjimngpodhdbaa
open Go.RowKit

def allB (zs : List Int) : Bool := zs.all fun z => inB z 0 255
def blockV (zs : List Int) : Bool := allB zs && inB zs.length 1 8
def fileV (zs : List Int) : Bool := allB zs && inB zs.length 0 32

theorem allB_succ {zs : List Int} {k : Nat} (h : k < zs.length) : allB (zs.take (k + 1)) = (allB (zs.take k) && inB (zs.getD k 0) 0 255) := by
  rw [List.take_succ_eq_append_getElem h]
  have e : zs.getD k 0 = zs[k] := by simp [List.getD, h]
  simp only [allB, List.all_append, List.all_cons, List.all_nil, Bool.and_true, e]

theorem allB_take {zs : List Int} {k : Nat} (h : allB (zs.take k) = false) : allB zs = false := by
  rw [← List.take_append_drop k zs]
  simp only [allB, List.all_append, Bool.and_eq_false_iff] at *
  exact .inl h

theorem inB_byte {x : Int} : inB x 0 255 = true ↔ 0 ≤ x ∧ x ≤ 255 := by simp [inB]

set_option maxHeartbeats 400000 in
theorem specBlockValid_any (a : Option Addr) (n c : Nat) (zs : List Int) (w : World) (hr : RdI w a n zs) (hn : n ≤ 4611686018427387904) :
    Calls Try.prog 27 #[.slice a n c] w fun e w' => e = .returned (.bool (blockV zs)) ∧ w = w' := by
  have hl := Lib.hid hr.1
  go_enter Try.func27, Try.ntmps27
  go_wp2
  go_loop [3] (fun i => ∃ k : Nat, k ≤ n ∧ i = .int .i64 k ∧ Hid (allB (zs.take k) = true)) (fun i => n - (intOf i).toNat)
  case atStart => exact ⟨0, Nat.zero_le _, rfl, Lib.hid (by simp [allB])⟩
  case round =>
    obtain ⟨k, hk, rfl, he⟩ := hrel
    by_cases hlt : k < n
    · obtain ⟨b, off, rfl, x, hx, hcell⟩ := hr.at_ hlt
      have hs := allB_succ (zs := zs) (k := k) (by have := hl.out; omega)
      rw [he.out, ← hx] at hs
      have HX := Lib.hid hx
      clear hx
      by_cases hb : inB x 0 255 = true
      · have HS : Hid (allB (zs.take (k + 1)) = true) := Lib.hid (by rw [hs, hb]; rfl)
        clear hs
        go_wp2_with (go_at_call 26; refine (l6In_any _ _ _ _).mono ?_; rintro e w' ⟨rfl, rfl⟩)
        go_round
        case rel => exact ⟨k + 1, by omega, by go_num, HS⟩
        case measure => simp [intOf]; omega
      · have hb' : inB x 0 255 = false := by simpa using hb
        have hf : Hid (blockV zs = false) := Lib.hid (by
          rw [hb'] at hs
          simp only [blockV, allB_take (k := k + 1) (by rw [hs]; rfl), Bool.false_and])
        clear hs hb
        go_wp2_with (go_at_call 26; refine (l6In_any _ _ _ _).mono ?_; rintro e w' ⟨rfl, rfl⟩)
        go_ret
        rw [hf.out]
        exact ⟨rfl, rfl⟩
    · obtain rfl : k = n := by omega
      have hf : Hid (blockV zs = inB k 1 8) := Lib.hid (by
        have h := he.out
        rw [List.take_of_length_le (by have := hl.out; omega)] at h
        simp only [blockV, h, Bool.true_and, hl.out])
      go_wp2_with (go_at_call 26; refine (l6In_any _ _ _ _).mono ?_; rintro e w' ⟨rfl, rfl⟩)
      go_ret
      rw [hf.out]
      exact ⟨rfl, rfl⟩


set_option maxHeartbeats 400000 in
theorem specFileValid_any (a : Option Addr) (n c : Nat) (zs : List Int) (w : World) (hr : RdI w a n zs) (hn : n ≤ 4611686018427387904) :
    Calls Try.prog 48 #[.slice a n c] w fun e w' => e = .returned (.bool (fileV zs)) ∧ w = w' := by
  have hl := Lib.hid hr.1
  go_enter Try.func48, Try.ntmps48
  go_wp2
  go_loop [3] (fun i => ∃ k : Nat, k ≤ n ∧ i = .int .i64 k ∧ Hid (allB (zs.take k) = true)) (fun i => n - (intOf i).toNat)
  case atStart => exact ⟨0, Nat.zero_le _, rfl, Lib.hid (by simp [allB])⟩
  case round =>
    obtain ⟨k, hk, rfl, he⟩ := hrel
    by_cases hlt : k < n
    · obtain ⟨b, off, rfl, x, hx, hcell⟩ := hr.at_ hlt
      have hs := allB_succ (zs := zs) (k := k) (by have := hl.out; omega)
      rw [he.out, ← hx] at hs
      have HX := Lib.hid hx
      clear hx
      by_cases hb : inB x 0 255 = true
      · have HS : Hid (allB (zs.take (k + 1)) = true) := Lib.hid (by rw [hs, hb]; rfl)
        clear hs
        go_wp2_with (go_at_call 26; refine (l6In_any _ _ _ _).mono ?_; rintro e w' ⟨rfl, rfl⟩)
        go_round
        case rel => exact ⟨k + 1, by omega, by go_num, HS⟩
        case measure => simp [intOf]; omega
      · have hb' : inB x 0 255 = false := by simpa using hb
        have hf : Hid (fileV zs = false) := Lib.hid (by
          rw [hb'] at hs
          simp only [fileV, allB_take (k := k + 1) (by rw [hs]; rfl), Bool.false_and])
        clear hs hb
        go_wp2_with (go_at_call 26; refine (l6In_any _ _ _ _).mono ?_; rintro e w' ⟨rfl, rfl⟩)
        go_ret
        rw [hf.out]
        exact ⟨rfl, rfl⟩
    · obtain rfl : k = n := by omega
      have hf : Hid (fileV zs = decide ((k : Int) ≤ 32)) := Lib.hid (by
        have h := he.out
        rw [List.take_of_length_le (by have := hl.out; omega)] at h
        simp only [fileV, h, Bool.true_and, hl.out, inB]; simp)
      go_wp2
      go_ret
      rw [hf.out]
      exact ⟨rfl, rfl⟩


set_option maxHeartbeats 400000 in
theorem bytesValid_any (a : Option Addr) (n c : Nat) (zs : List Int) (w : World) (hr : RdI w a n zs) (hn : n ≤ 4611686018427387904) :
    Calls Try.prog 45 #[.slice a n c] w fun e w' => e = .returned (.bool (allB zs)) ∧ w = w' := by
  have hl := Lib.hid hr.1
  go_enter Try.func45, Try.ntmps45
  go_wp2
  go_loop [7] (fun i => ∃ k : Nat, k ≤ n ∧ i = .int .i64 k ∧ Hid (allB (zs.take k) = true)) (fun i => n - (intOf i).toNat)
  case atStart => exact ⟨0, Nat.zero_le _, rfl, Lib.hid (by simp [allB])⟩
  case round =>
    obtain ⟨k, hk, rfl, he⟩ := hrel
    by_cases hlt : k < n
    · obtain ⟨b, off, rfl, x, hx, hcell⟩ := hr.at_ hlt
      have hs := allB_succ (zs := zs) (k := k) (by have := hl.out; omega)
      rw [he.out, ← hx] at hs
      have HX := Lib.hid hx
      clear hx
      by_cases h0 : x < 0
      · have hf : Hid (allB zs = false) := Lib.hid (by
          rw [show inB x 0 255 = false by simp [inB]; omega] at hs
          simp only [allB_take (k := k + 1) (by rw [hs]; rfl)])
        clear hs
        go_wp2
        go_ret
        rw [hf.out]
        exact ⟨rfl, rfl⟩
      · by_cases h1 : 255 < x
        · have hf : Hid (allB zs = false) := Lib.hid (by
            rw [show inB x 0 255 = false by simp [inB]; omega] at hs
            simp only [allB_take (k := k + 1) (by rw [hs]; rfl)])
          clear hs
          go_wp2
          go_ret
          rw [hf.out]
          exact ⟨rfl, rfl⟩
        · have HS : Hid (allB (zs.take (k + 1)) = true) := Lib.hid (by rw [hs, show inB x 0 255 = true by simp [inB]; omega]; rfl)
          clear hs
          go_wp2
          go_round
          case rel => exact ⟨k + 1, by omega, by go_num, HS⟩
          case measure => simp [intOf]; omega
    · obtain rfl : k = n := by omega
      have hf : Hid (allB zs = true) := Lib.hid (by
        have h := he.out
        rw [List.take_of_length_le (by have := hl.out; omega)] at h
        exact h)
      go_wp2
      go_ret
      rw [hf.out]
      exact ⟨rfl, rfl⟩

set_option maxHeartbeats 400000 in
theorem implBlockValid_any (a : Option Addr) (n c : Nat) (zs : List Int) (w : World) (hr : RdI w a n zs) (hn : n ≤ 4611686018427387904) :
    Calls Try.prog 30 #[.slice a n c] w fun e w' => e = .returned (.bool (blockV zs)) ∧ w = w' := by
  have hl := hr.1
  by_cases h1 : 1 ≤ n
  · by_cases h8 : n ≤ 8
    · have hf : Hid (blockV zs = allB zs) := Lib.hid (by simp [blockV, inB, hl]; omega)
      clear hl
      go_enter Try.func30, Try.ntmps30
      go_wp2_with (go_at_call 45; refine (bytesValid_any a n c zs _ hr hn).mono ?_; rintro e w' ⟨rfl, rfl⟩)
      go_ret
      rw [hf.out]
      exact ⟨rfl, rfl⟩
    · have hf : Hid (blockV zs = false) := Lib.hid (by simp [blockV, inB, hl]; omega)
      clear hl
      go_enter Try.func30, Try.ntmps30
      go_wp2
      go_ret
      rw [hf.out]
      exact ⟨rfl, rfl⟩
  · have hf : Hid (blockV zs = false) := Lib.hid (by simp [blockV, inB, hl]; omega)
    clear hl
    go_enter Try.func30, Try.ntmps30
    go_wp2
    go_ret
    rw [hf.out]
    exact ⟨rfl, rfl⟩

end Go.Proofs.Ytkjimngpodhdbaa
