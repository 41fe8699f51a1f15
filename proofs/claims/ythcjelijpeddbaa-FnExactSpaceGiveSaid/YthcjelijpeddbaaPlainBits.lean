/- Plain: two words of 64 bits as a set of places. -/
import Derived.Test.YthcjelijpeddbaaPlainSpace
import Derived.Laws.BitsAllLaws
import Derived.Laws.ShiftsVarLaws
namespace Go.Proofs.Ythcjelijpeddbaa
set_option linter.unusedVariables false

/-- Whether a place is marked in two words. -/
def bitS (x y : Nat) (p : Int) : Bool := decide (0 ≤ p) && (if p < 64 then x.testBit p.toNat else decide (p < 128) && y.testBit (p.toNat - 64))

theorem bitS_lo (x y : Nat) (p : Nat) (h : p < 64) : bitS x y (p : Int) = x.testBit p := by
  unfold bitS
  have h1 : ((p : Int) < 64) := by omega
  simp [h1]

theorem bitS_hi (x y : Nat) (p : Nat) (h : 64 ≤ p) (h' : p < 128) : bitS x y (p : Int) = y.testBit (p - 64) := by
  unfold bitS
  have h1 : ¬ ((p : Int) < 64) := by omega
  have h2 : ((p : Int) < 128) := by omega
  simp [h1, h2]

theorem bitS_zero (p : Int) : bitS 0 0 p = false := by
  unfold bitS
  simp

theorem bit_set (x k j : Nat) : (x ||| 2 ^ k).testBit j = (x.testBit j || decide (k = j)) := by
  rw [Nat.testBit_or, Nat.testBit_two_pow]

theorem bit_clear (x k j : Nat) (hx : x < 18446744073709551616) (hk : k < 64) : (x &&& (18446744073709551615 - 2 ^ k)).testBit j = (x.testBit j && !decide (k = j)) := by
  rw [Nat.testBit_and]
  have e : 18446744073709551615 - 2 ^ k = 2 ^ 64 - (2 ^ k + 1) := by omega
  rw [e, Nat.testBit_two_pow_sub_succ (Nat.pow_lt_pow_of_lt (by omega) hk), Nat.testBit_two_pow]
  by_cases hj : j < 64
  · simp [hj]
  · have : x.testBit j = false := Nat.testBit_lt_two_pow (Nat.lt_of_lt_of_le hx (by
      have : 2 ^ 64 ≤ 2 ^ j := Nat.pow_le_pow_right (by omega) (by omega)
      simpa using this))
    simp [this]

theorem bitS_set_lo (x y k : Nat) (hk : k < 64) (p : Int) : bitS (x ||| 2 ^ k) y p = (bitS x y p || decide (p = (k : Int))) := by
  unfold bitS
  by_cases h0 : 0 ≤ p
  · obtain ⟨q, rfl⟩ := Int.eq_ofNat_of_zero_le h0
    by_cases h1 : (q : Int) < 64
    · simp only [h1, if_true, bit_set, Int.toNat_natCast]
      by_cases e : q = k
      · subst e; simp
      · have : ¬ k = q := fun h => e h.symm
        have e' : ¬ ((q : Int) = (k : Int)) := by omega
        simp [this, e']
    · have e' : ¬ ((q : Int) = (k : Int)) := by omega
      simp [h1, e']
  · have e' : ¬ (p = (k : Int)) := by omega
    simp [h0, e']

theorem bitS_set_hi (x y k : Nat) (hk : k < 64) (p : Int) : bitS x (y ||| 2 ^ k) p = (bitS x y p || decide (p = (k : Int) + 64)) := by
  unfold bitS
  by_cases h0 : 0 ≤ p
  · obtain ⟨q, rfl⟩ := Int.eq_ofNat_of_zero_le h0
    by_cases h1 : (q : Int) < 64
    · have e' : ¬ ((q : Int) = (k : Int) + 64) := by omega
      simp [h1, e']
    · by_cases h2 : (q : Int) < 128
      · simp only [h1, if_false, bit_set, Int.toNat_natCast]
        by_cases e : q = k + 64
        · subst e; simp; omega
        · have : ¬ k = q - 64 := by omega
          have e' : ¬ ((q : Int) = (k : Int) + 64) := by omega
          simp [this, e', h2]
      · have e' : ¬ ((q : Int) = (k : Int) + 64) := by omega
        simp [h1, h2, e']
  · have e' : ¬ (p = (k : Int) + 64) := by omega
    simp [h0, e']

theorem bitS_clear_lo (x y k : Nat) (hx : x < 18446744073709551616) (hk : k < 64) (p : Int) : bitS (x &&& (18446744073709551615 - 2 ^ k)) y p = (bitS x y p && !decide (p = (k : Int))) := by
  unfold bitS
  by_cases h0 : 0 ≤ p
  · obtain ⟨q, rfl⟩ := Int.eq_ofNat_of_zero_le h0
    by_cases h1 : (q : Int) < 64
    · simp only [h1, if_true, bit_clear x k _ hx hk, Int.toNat_natCast]
      by_cases e : q = k
      · subst e; simp
      · have : ¬ k = q := fun h => e h.symm
        have e' : ¬ ((q : Int) = (k : Int)) := by omega
        simp [this, e']
    · have e' : ¬ ((q : Int) = (k : Int)) := by omega
      simp [h1, e']
  · simp [h0]

theorem bitS_clear_hi (x y k : Nat) (hy : y < 18446744073709551616) (hk : k < 64) (p : Int) : bitS x (y &&& (18446744073709551615 - 2 ^ k)) p = (bitS x y p && !decide (p = (k : Int) + 64)) := by
  unfold bitS
  by_cases h0 : 0 ≤ p
  · obtain ⟨q, rfl⟩ := Int.eq_ofNat_of_zero_le h0
    by_cases h1 : (q : Int) < 64
    · have e' : ¬ ((q : Int) = (k : Int) + 64) := by omega
      simp [h1, e']
    · by_cases h2 : (q : Int) < 128
      · simp only [h1, if_false, bit_clear y k _ hy hk, Int.toNat_natCast]
        by_cases e : q = k + 64
        · subst e; simp
        · have : ¬ k = q - 64 := by omega
          have e' : ¬ ((q : Int) = (k : Int) + 64) := by omega
          simp [this, e', h2]
      · simp [h1, h2]
  · simp [h0]

theorem or_lt (x k : Nat) (hx : x < 18446744073709551616) (hk : k < 64) : x ||| 2 ^ k < 18446744073709551616 := by
  have h : x ||| 2 ^ k < 2 ^ 64 := Nat.or_lt_two_pow (by simpa using hx) (Nat.pow_lt_pow_of_lt (by omega) hk)
  simpa using h

theorem clear_lt (x z : Nat) (hx : x < 18446744073709551616) : x &&& z < 18446744073709551616 := Nat.lt_of_le_of_lt Nat.and_le_left hx

theorem testBit_mod (x k : Nat) : x.testBit k = decide (x / 2 ^ k % 2 = 1) := Nat.testBit_eq_decide_div_mod_eq

end Go.Proofs.Ythcjelijpeddbaa
