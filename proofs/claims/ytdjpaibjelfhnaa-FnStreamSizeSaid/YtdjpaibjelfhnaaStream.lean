/- Contracts of the reference's and the program's StreamSize. -/
import Derived.Test.YtdjpaibjelfhnaaPartE
import Derived.BigQuiet
import Derived.Deep.QuietTactic
import Derived.Outline
namespace Go.Proofs.Ytdjpaibjelfhnaa
open Go.RowKit
set_option linter.unusedVariables false

/-- How many bytes the parts have. -/
def lenP (xs : List PV) : Int := (xs.map fun x => (x.zs.length : Int)).sum

theorem lenP_nil : lenP [] = 0 := rfl
theorem lenP_cons (x : PV) (xs : List PV) : lenP (x :: xs) = x.zs.length + lenP xs := by simp [lenP]
theorem lenP_append (xs ys : List PV) : lenP (xs ++ ys) = lenP xs + lenP ys := by simp [lenP]
theorem lenP_nonneg (xs : List PV) : 0 ≤ lenP xs := by
  induction xs with
  | nil => simp [lenP]
  | cons x xs ih => rw [lenP_cons]; omega
theorem lenP_take {xs : List PV} {k : Nat} {x : PV} (h : xs[k]? = some x) : lenP (xs.take (k + 1)) = lenP (xs.take k) + x.zs.length := by
  obtain ⟨hk, rfl⟩ := List.getElem?_eq_some_iff.1 h
  rw [List.take_succ_eq_append_getElem hk, lenP_append, lenP_cons, lenP_nil]; omega
theorem lenP_le (xs : List PV) (k : Nat) : lenP (xs.take k) ≤ lenP xs := by
  have := lenP_append (xs.take k) (xs.drop k)
  rw [List.take_append_drop] at this
  have := lenP_nonneg (xs.drop k)
  omega
theorem lenP_vals {xs ys : List PV} (h : valsP xs = valsP ys) : lenP xs = lenP ys := by
  have e : ∀ zs : List PV, lenP zs = ((valsP zs).map fun v => (v.2.2.2.length : Int)).sum := by
    intro zs; unfold lenP valsP; rw [List.map_map]; rfl
  rw [e, e, h]
theorem lenP_sz (xs : List PV) : lenP xs ≤ szP xs := by
  induction xs with
  | nil => simp [lenP, szP]
  | cons x xs ih => rw [lenP_cons, szP_cons]; omega

theorem lenP_each {xs : List PV} {m : Nat} (h : ∀ x ∈ xs, x.zs.length ≤ m) : lenP xs ≤ xs.length * m := by
  induction xs with
  | nil => simp [lenP]
  | cons x xs ih =>
    have h1 := h x (by simp)
    have h2 := ih (fun y hy => h y (by simp [hy]))
    rw [lenP_cons, List.length_cons]
    have : ((xs.length + 1 : Nat) : Int) * (m : Int) = (xs.length : Int) * m + m := by rw [Int.natCast_add, Int.add_mul]; simp
    rw [this]; omega

theorem lenP_small {xs : List PV} (hl : xs.length ≤ 5) (h : ∀ x ∈ xs, x.zs.length ≤ 33) : lenP xs ≤ 1000 := by
  have h1 := lenP_each h
  have h2 : (xs.length : Int) * ((33 : Nat) : Int) ≤ 5 * 33 := Int.mul_le_mul_of_nonneg_right (by omega) (by omega)
  omega

theorem lenP_split (xs : List PV) (k : Nat) : lenP (xs.take k) + lenP (xs.drop k) = lenP xs := by
  rw [← lenP_append, List.take_append_drop]

set_option maxHeartbeats 1000000 in
theorem specStreamSize_any (a : Option Addr) (n c : Nat) (xs : List PV) (w : World) (hr : RdR eltP w a n xs) (hn : n ≤ 4611686018427387904) (hs : lenP xs ≤ 1099511627776) :
    Calls Try.prog 9 #[.slice a n c] w (RetB w (.int .i64 (lenP xs))) := by
  have hl := Lib.hid hr.1
  have HS := Lib.hid hs
  clear hs
  go_enter Try.func9, Try.ntmps9
  go_wp2
  go_loopw [3, 4] (fun v i wr => ∃ k : Nat, k ≤ n ∧ i = .int .i64 k ∧ (∃ s : Int, v = .int .i64 s ∧ Hid (s = lenP (xs.take k))) ∧ Below w.heap.size w wr)
    (fun _ i _ => n - (intOf i).toNat)
  case atStart => exact ⟨0, Nat.zero_le _, rfl, ⟨0, rfl, Lib.hid rfl⟩, Below.refl _ _⟩
  case round =>
    obtain ⟨k, hk, rfl, ⟨s, rfl, hsum⟩, hb⟩ := hrel
    by_cases hlt : k < n
    · obtain ⟨b, off, x, rfl, hbl, hx, c0, c1, c2, c3⟩ := atP (hr.below hb) hlt
      have hst := lenP_take hx
      have hle := lenP_le xs (k + 1)
      have hnn := lenP_nonneg (xs.take k)
      rw [← hsum.out] at hst hnn
      have hb1 : 0 ≤ s + x.zs.length ∧ s + (x.zs.length : Int) ≤ 1099511627776 := by have := HS.out; omega
      obtain ⟨m, hm⟩ : ∃ m, x.zs.length = m := ⟨_, rfl⟩
      rw [hm] at hst hb1 c3
      have HT := Lib.hid hst.symm
      have hk0 : (0 : Int) ≤ (k : Int) := by omega
      have hk1 : (k : Int) < (n : Int) := by omega
      obtain ⟨hb2, hb3⟩ := hb1
      clear hx hst hle hm c0 c1 c2
      go_wp2
      go_roundw
      case rel => exact ⟨k + 1, by omega, by go_num, ⟨s + m, by go_num, HT⟩, hb⟩
      case measure => simp [intOf]; omega
    · obtain rfl : k = n := by omega
      have HR := Lib.hid (show s = lenP xs by rw [hsum.out, List.take_of_length_le (by have := hl.out; omega)])
      go_wp2
      go_ret
      rw [HR.out]
      exact ⟨rfl, hb⟩

set_option maxHeartbeats 1000000 in
theorem implStreamSize_any (a : Option Addr) (n c : Nat) (xs : List PV) (w : World) (hr : RdR eltP w a n xs) (hn : n ≤ 4611686018427387904) (hs : lenP xs ≤ 1099511627776) :
    Calls Try.prog 8 #[.slice a n c] w (RetB w (.int .i64 (lenP xs))) := by
  have hl := Lib.hid hr.1
  have HS := Lib.hid hs
  clear hs
  go_enter Try.func8, Try.ntmps8
  go_wp2
  go_loopw [3, 8] (fun v i wr => ∃ k : Nat, k ≤ n ∧ i = .int .i64 k ∧ (∃ s : Int, v = .int .i64 s ∧ Hid (s = lenP (xs.take k))) ∧ Below w.heap.size w wr)
    (fun _ i _ => n - (intOf i).toNat)
  case atStart => exact ⟨0, Nat.zero_le _, rfl, ⟨0, rfl, Lib.hid rfl⟩, Below.refl _ _⟩
  case round =>
    obtain ⟨k, hk, rfl, ⟨s, rfl, hsum⟩, hb⟩ := hrel
    by_cases hlt : k < n
    · obtain ⟨b, off, x, rfl, hbl, hx, c0, c1, c2, c3⟩ := atP (hr.below hb) hlt
      have hst := lenP_take hx
      have hle := lenP_le xs (k + 1)
      have hnn := lenP_nonneg (xs.take k)
      rw [← hsum.out] at hst hnn
      have hb1 : 0 ≤ s + x.zs.length ∧ s + (x.zs.length : Int) ≤ 1099511627776 := by have := HS.out; omega
      obtain ⟨m, hm⟩ : ∃ m, x.zs.length = m := ⟨_, rfl⟩
      rw [hm] at hst hb1 c3
      have HT := Lib.hid hst.symm
      have hk0 : (0 : Int) ≤ (k : Int) := by omega
      have hk1 : (k : Int) < (n : Int) := by omega
      obtain ⟨hb2, hb3⟩ := hb1
      clear hx hst hle hm
      go_wp2
      go_roundw
      case rel => exact ⟨k + 1, by omega, by go_num, ⟨s + m, by go_num, HT⟩, hb.alloc hb.size _⟩
      case measure => simp [intOf]; omega
    · obtain rfl : k = n := by omega
      have HR := Lib.hid (show s = lenP xs by rw [hsum.out, List.take_of_length_le (by have := hl.out; omega)])
      go_wp2
      go_ret
      rw [HR.out]
      exact ⟨rfl, hb⟩

end Go.Proofs.Ytdjpaibjelfhnaa
