/- Contracts of the functions that compare two slices of ints: they answer whether the lists are equal, and only read. -/
import Derived.Test.YtdjpaibjelfhnaaBase
import Derived.BigQuiet
import Derived.Deep.QuietTactic
import Derived.Outline
namespace Go.Proofs.Ytdjpaibjelfhnaa
open Go.RowKit

/-- v is handed back; the world has only drawn. -/
def RetQ (w : World) (v : Value) (e : Ending) (w' : World) : Prop := e = .returned v ∧ ∃ m, w' = w.drewN m

def eqI (xs ys : List Int) : Bool := decide (xs = ys)

theorem take_succ_eq {xs ys : List Int} {k : Nat} (h : xs.take k = ys.take k) (hx : k < xs.length) (hy : k < ys.length) (e : xs.getD k 0 = ys.getD k 0) : xs.take (k + 1) = ys.take (k + 1) := by
  rw [List.take_succ_eq_append_getElem hx, List.take_succ_eq_append_getElem hy, h]
  simp [List.getD, hx, hy] at e
  rw [e]

theorem eqI_false {xs ys : List Int} {k : Nat} (h : xs.getD k 0 ≠ ys.getD k 0) : eqI xs ys = false := by
  simp only [eqI, decide_eq_false_iff_not]
  rintro rfl
  exact h rfl

set_option maxHeartbeats 400000 in
theorem eqIntS_any (a a' : Option Addr) (n n' c c' : Nat) (xs ys : List Int) (w : World) (hr : RdI w a n xs) (hr' : RdI w a' n' ys) (hn : n ≤ 4611686018427387904) (hn' : n' ≤ 4611686018427387904) :
    Calls Try.prog 17 #[.slice a n c, .slice a' n' c'] w (RetQ w (.bool (eqI xs ys))) := by
  have hl := Lib.hid hr.1
  have hl' := Lib.hid hr'.1
  by_cases hnn : n = n'
  · subst hnn
    go_enter Try.func17, Try.ntmps17
    go_wp2
    go_loopw [5] (fun i wr => ∃ k : Nat, k ≤ n ∧ i = .int .i64 k ∧ Hid (xs.take k = ys.take k) ∧ ∃ m, wr = w.drewN m)
      (fun i _ => n - (intOf i).toNat)
    case atStart => exact ⟨0, Nat.zero_le _, rfl, Lib.hid (by simp), 0, rfl⟩
    case round =>
      obtain ⟨k, hk, rfl, he, m, rfl⟩ := hrel
      by_cases hlt : k < n
      · obtain ⟨b, off, rfl, x, hx, hcell⟩ := hr.at_ hlt
        obtain ⟨b', off', rfl, y, hy, hcell'⟩ := hr'.at_ hlt
        have HX := Lib.hid hx
        have HY := Lib.hid hy
        clear hx hy
        have hk0 : (0 : Int) ≤ (k : Int) := by omega
        have hk1 : (k : Int) < (n : Int) := by omega
        by_cases hxy : x = y
        · have ht : (x != y) = false := by simp [hxy]
          have hs := take_succ_eq he.out (by have := hl.out; omega) (by have := hl'.out; omega) (by rw [← HX.out, ← HY.out, hxy])
          have HS := Lib.hid hs
          clear hxy hs
          go_wp2
          go_quiet (fail)
          go_wp2
          go_roundw
          case rel => exact ⟨k + 1, by omega, by go_num, HS, _, rfl⟩
          case measure => simp [intOf]; omega
        · have ht : (x != y) = true := by simp [hxy]
          have hf : Hid (eqI xs ys = false) := Lib.hid (eqI_false (k := k) (by rw [← HX.out, ← HY.out]; exact hxy))
          clear hxy
          go_wp2
          go_quiet (fail)
          go_wp2
          go_ret
          rw [hf.out]
          exact ⟨rfl, _, World.drewN_drewN _ _ _⟩
      · obtain rfl : k = n := by omega
        go_wp2
        go_ret
        have ht : eqI xs ys = true := by
          have h := he.out
          rw [List.take_of_length_le (by have := hl.out; omega), List.take_of_length_le (by have := hl'.out; omega)] at h
          simp [eqI, h]
        rw [ht]
        exact ⟨rfl, _, rfl⟩
  · have hf : Hid (eqI xs ys = false) := Lib.hid (by
      simp only [eqI, decide_eq_false_iff_not]; rintro rfl; have := hl.out; have := hl'.out; omega)
    go_enter Try.func17, Try.ntmps17
    go_wp2
    go_ret
    rw [hf.out]
    exact ⟨rfl, 0, rfl⟩

set_option maxHeartbeats 400000 in
theorem sameInts_any (a a' : Option Addr) (n n' c c' : Nat) (xs ys : List Int) (w : World) (hr : RdI w a n xs) (hr' : RdI w a' n' ys) (hn : n ≤ 4611686018427387904) (hn' : n' ≤ 4611686018427387904) :
    Calls Try.prog 23 #[.slice a n c, .slice a' n' c'] w (RetQ w (.bool (eqI xs ys))) := by
  have hl := Lib.hid hr.1
  have hl' := Lib.hid hr'.1
  by_cases hnn : n = n'
  · subst hnn
    go_enter Try.func23, Try.ntmps23
    go_wp2
    go_loopw [5] (fun i wr => ∃ k : Nat, k ≤ n ∧ i = .int .i64 k ∧ Hid (xs.take k = ys.take k) ∧ ∃ m, wr = w.drewN m)
      (fun i _ => n - (intOf i).toNat)
    case atStart => exact ⟨0, Nat.zero_le _, rfl, Lib.hid (by simp), 0, rfl⟩
    case round =>
      obtain ⟨k, hk, rfl, he, m, rfl⟩ := hrel
      by_cases hlt : k < n
      · obtain ⟨b, off, rfl, x, hx, hcell⟩ := hr.at_ hlt
        obtain ⟨b', off', rfl, y, hy, hcell'⟩ := hr'.at_ hlt
        have HX := Lib.hid hx
        have HY := Lib.hid hy
        clear hx hy
        have hk0 : (0 : Int) ≤ (k : Int) := by omega
        have hk1 : (k : Int) < (n : Int) := by omega
        by_cases hxy : x = y
        · have ht : (x != y) = false := by simp [hxy]
          have hs := take_succ_eq he.out (by have := hl.out; omega) (by have := hl'.out; omega) (by rw [← HX.out, ← HY.out, hxy])
          have HS := Lib.hid hs
          clear hxy hs
          go_wp2
          go_quiet (fail)
          go_wp2
          go_roundw
          case rel => exact ⟨k + 1, by omega, by go_num, HS, _, rfl⟩
          case measure => simp [intOf]; omega
        · have ht : (x != y) = true := by simp [hxy]
          have hf : Hid (eqI xs ys = false) := Lib.hid (eqI_false (k := k) (by rw [← HX.out, ← HY.out]; exact hxy))
          clear hxy
          go_wp2
          go_quiet (fail)
          go_wp2
          go_ret
          rw [hf.out]
          exact ⟨rfl, _, World.drewN_drewN _ _ _⟩
      · obtain rfl : k = n := by omega
        go_wp2
        go_ret
        have ht : eqI xs ys = true := by
          have h := he.out
          rw [List.take_of_length_le (by have := hl.out; omega), List.take_of_length_le (by have := hl'.out; omega)] at h
          simp [eqI, h]
        rw [ht]
        exact ⟨rfl, _, rfl⟩
  · have hf : Hid (eqI xs ys = false) := Lib.hid (by
      simp only [eqI, decide_eq_false_iff_not]; rintro rfl; have := hl.out; have := hl'.out; omega)
    go_enter Try.func23, Try.ntmps23
    go_wp2
    go_ret
    rw [hf.out]
    exact ⟨rfl, 0, rfl⟩

set_option maxHeartbeats 400000 in
theorem l2Same_any (a a' : Option Addr) (n n' c c' : Nat) (xs ys : List Int) (w : World) (hr : RdI w a n xs) (hr' : RdI w a' n' ys) (hn : n ≤ 4611686018427387904) (hn' : n' ≤ 4611686018427387904) :
    Calls Try.prog 53 #[.slice a n c, .slice a' n' c'] w (RetQ w (.bool (eqI xs ys))) := by
  have hl := Lib.hid hr.1
  have hl' := Lib.hid hr'.1
  by_cases hnn : n = n'
  · subst hnn
    go_enter Try.func53, Try.ntmps53
    go_wp2
    go_loopw [5] (fun i wr => ∃ k : Nat, k ≤ n ∧ i = .int .i64 k ∧ Hid (xs.take k = ys.take k) ∧ ∃ m, wr = w.drewN m)
      (fun i _ => n - (intOf i).toNat)
    case atStart => exact ⟨0, Nat.zero_le _, rfl, Lib.hid (by simp), 0, rfl⟩
    case round =>
      obtain ⟨k, hk, rfl, he, m, rfl⟩ := hrel
      by_cases hlt : k < n
      · obtain ⟨b, off, rfl, x, hx, hcell⟩ := hr.at_ hlt
        obtain ⟨b', off', rfl, y, hy, hcell'⟩ := hr'.at_ hlt
        have HX := Lib.hid hx
        have HY := Lib.hid hy
        clear hx hy
        have hk0 : (0 : Int) ≤ (k : Int) := by omega
        have hk1 : (k : Int) < (n : Int) := by omega
        by_cases hxy : x = y
        · have ht : (x != y) = false := by simp [hxy]
          have hs := take_succ_eq he.out (by have := hl.out; omega) (by have := hl'.out; omega) (by rw [← HX.out, ← HY.out, hxy])
          have HS := Lib.hid hs
          clear hxy hs
          go_wp2
          go_quiet (fail)
          go_wp2
          go_roundw
          case rel => exact ⟨k + 1, by omega, by go_num, HS, _, rfl⟩
          case measure => simp [intOf]; omega
        · have ht : (x != y) = true := by simp [hxy]
          have hf : Hid (eqI xs ys = false) := Lib.hid (eqI_false (k := k) (by rw [← HX.out, ← HY.out]; exact hxy))
          clear hxy
          go_wp2
          go_quiet (fail)
          go_wp2
          go_ret
          rw [hf.out]
          exact ⟨rfl, _, World.drewN_drewN _ _ _⟩
      · obtain rfl : k = n := by omega
        go_wp2
        go_ret
        have ht : eqI xs ys = true := by
          have h := he.out
          rw [List.take_of_length_le (by have := hl.out; omega), List.take_of_length_le (by have := hl'.out; omega)] at h
          simp [eqI, h]
        rw [ht]
        exact ⟨rfl, _, rfl⟩
  · have hf : Hid (eqI xs ys = false) := Lib.hid (by
      simp only [eqI, decide_eq_false_iff_not]; rintro rfl; have := hl.out; have := hl'.out; omega)
    go_enter Try.func53, Try.ntmps53
    go_wp2
    go_ret
    rw [hf.out]
    exact ⟨rfl, 0, rfl⟩

end Go.Proofs.Ytdjpaibjelfhnaa
